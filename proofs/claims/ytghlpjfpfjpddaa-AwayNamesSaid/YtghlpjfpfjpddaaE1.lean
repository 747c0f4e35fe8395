/- Parts Tab, Tab2, TaA, TaB, TaC, TaD, TaE, TbA, TbD of the proof, one behind the other. No statement is proved here. -/
import Derived.Test.YtghlpjfpfjpddaaN2
import Derived.Test.YtghlpjfpfjpddaaProg
import Derived.KernelRfl
import Derived.Test.YtghlpjfpfjpddaaN3
import Derived.Test.YtghlpjfpfjpddaaN4
/- MADE BY A PROGRAM of ours (wip/tools/Tab): what the program's table says of the types that the walks meet. -/
namespace Go.Am
open Go.RowKit Go.Proofs
theorem tsz3 : tsz Try.prog 3 = some 1 := by kernel_rfl
theorem tagg3 : tagg Try.prog 3 = some false := by kernel_rfl
theorem tint3 : tint Try.prog 3 = some .i64 := by kernel_rfl
theorem tund3 : (Try.prog.underlying 3).isSome = true := by kernel_rfl
theorem tbytes3 : tbytes Try.prog 3 = some 8 := by kernel_rfl
theorem tzero3 : tzero Try.prog 3 = some [.int .i64 0] := by kernel_rfl
theorem tzv3 : tzv Try.prog 3 = some (.int .i64 0) := by kernel_rfl
theorem tsz4 : tsz Try.prog 4 = some 1 := by kernel_rfl
theorem tagg4 : tagg Try.prog 4 = some false := by kernel_rfl
theorem tbytes4 : tbytes Try.prog 4 = some 1 := by kernel_rfl
theorem tzero4 : tzero Try.prog 4 = some [.bool false] := by kernel_rfl
theorem tzv4 : tzv Try.prog 4 = some (.bool false) := by kernel_rfl
theorem tsz5 : tsz Try.prog 5 = some 1 := by kernel_rfl
theorem tagg5 : tagg Try.prog 5 = some false := by kernel_rfl
theorem tint5 : tint Try.prog 5 = some .u8 := by kernel_rfl
theorem tund5 : (Try.prog.underlying 5).isSome = true := by kernel_rfl
theorem tbytes5 : tbytes Try.prog 5 = some 1 := by kernel_rfl
theorem tzero5 : tzero Try.prog 5 = some [.int .u8 0] := by kernel_rfl
theorem tzv5 : tzv Try.prog 5 = some (.int .u8 0) := by kernel_rfl
theorem tsz6 : tsz Try.prog 6 = some 1 := by kernel_rfl
theorem tagg6 : tagg Try.prog 6 = some false := by kernel_rfl
theorem tint6 : tint Try.prog 6 = some .u8 := by kernel_rfl
theorem tund6 : (Try.prog.underlying 6).isSome = true := by kernel_rfl
theorem tbytes6 : tbytes Try.prog 6 = some 1 := by kernel_rfl
theorem tzero6 : tzero Try.prog 6 = some [.int .u8 0] := by kernel_rfl
theorem tzv6 : tzv Try.prog 6 = some (.int .u8 0) := by kernel_rfl
theorem tsz7 : tsz Try.prog 7 = some 4 := by kernel_rfl
theorem tagg7 : tagg Try.prog 7 = some true := by kernel_rfl
theorem tarr7 : tarr Try.prog 7 = none := by kernel_rfl
theorem tbytes7 : tbytes Try.prog 7 = some 24 := by kernel_rfl
theorem tzero7 : tzero Try.prog 7 = some [.int .i64 0, .int .i64 0, .bool false, .int .u8 0] := by kernel_rfl
theorem tzv7 : tzv Try.prog 7 = some (.agg [.int .i64 0, .int .i64 0, .bool false, .int .u8 0]) := by kernel_rfl
theorem tplaces7 : tplaces Try.prog 7 = some [(0, 1), (1, 1), (2, 1), (3, 1)] := by kernel_rfl
theorem tfld7_0 : tfld Try.prog 7 0 = some (0, 2) := by kernel_rfl
theorem tfld7_1 : tfld Try.prog 7 1 = some (1, 3) := by kernel_rfl
theorem tfld7_2 : tfld Try.prog 7 2 = some (2, 4) := by kernel_rfl
theorem tfld7_3 : tfld Try.prog 7 3 = some (3, 6) := by kernel_rfl
theorem tsz8 : tsz Try.prog 8 = some 4 := by kernel_rfl
theorem tagg8 : tagg Try.prog 8 = some true := by kernel_rfl
theorem tarr8 : tarr Try.prog 8 = none := by kernel_rfl
theorem tbytes8 : tbytes Try.prog 8 = some 24 := by kernel_rfl
theorem tzero8 : tzero Try.prog 8 = some [.int .i64 0, .int .i64 0, .bool false, .int .u8 0] := by kernel_rfl
theorem tzv8 : tzv Try.prog 8 = some (.agg [.int .i64 0, .int .i64 0, .bool false, .int .u8 0]) := by kernel_rfl
theorem tplaces8 : tplaces Try.prog 8 = some [(0, 1), (1, 1), (2, 1), (3, 1)] := by kernel_rfl
theorem tfld8_0 : tfld Try.prog 8 0 = some (0, 2) := by kernel_rfl
theorem tfld8_1 : tfld Try.prog 8 1 = some (1, 3) := by kernel_rfl
theorem tfld8_2 : tfld Try.prog 8 2 = some (2, 4) := by kernel_rfl
theorem tfld8_3 : tfld Try.prog 8 3 = some (3, 6) := by kernel_rfl
theorem tsz9 : tsz Try.prog 9 = some 1 := by kernel_rfl
theorem tagg9 : tagg Try.prog 9 = some false := by kernel_rfl
theorem tbytes9 : tbytes Try.prog 9 = some 16 := by kernel_rfl
theorem tzero9 : tzero Try.prog 9 = some [.str (ByteArray.mk #[])] := by kernel_rfl
theorem tzv9 : tzv Try.prog 9 = some (.str (ByteArray.mk #[])) := by kernel_rfl
theorem tsz10 : tsz Try.prog 10 = some 1 := by kernel_rfl
theorem tagg10 : tagg Try.prog 10 = some false := by kernel_rfl
theorem tbytes10 : tbytes Try.prog 10 = some 16 := by kernel_rfl
theorem tzero10 : tzero Try.prog 10 = some [.str (ByteArray.mk #[])] := by kernel_rfl
theorem tzv10 : tzv Try.prog 10 = some (.str (ByteArray.mk #[])) := by kernel_rfl
theorem tsz11 : tsz Try.prog 11 = some 1 := by kernel_rfl
theorem tagg11 : tagg Try.prog 11 = some false := by kernel_rfl
theorem tbytes11 : tbytes Try.prog 11 = some 16 := by kernel_rfl
theorem tzero11 : tzero Try.prog 11 = some [.str (ByteArray.mk #[])] := by kernel_rfl
theorem tzv11 : tzv Try.prog 11 = some (.str (ByteArray.mk #[])) := by kernel_rfl
theorem tsz12 : tsz Try.prog 12 = some 1 := by kernel_rfl
theorem tagg12 : tagg Try.prog 12 = some false := by kernel_rfl
theorem tint12 : tint Try.prog 12 = some .u64 := by kernel_rfl
theorem tund12 : (Try.prog.underlying 12).isSome = true := by kernel_rfl
theorem tbytes12 : tbytes Try.prog 12 = some 8 := by kernel_rfl
theorem tzero12 : tzero Try.prog 12 = some [.int .u64 0] := by kernel_rfl
theorem tzv12 : tzv Try.prog 12 = some (.int .u64 0) := by kernel_rfl
theorem tsz13 : tsz Try.prog 13 = some 2 := by kernel_rfl
theorem tagg13 : tagg Try.prog 13 = some true := by kernel_rfl
theorem tarr13 : tarr Try.prog 13 = none := by kernel_rfl
theorem tbytes13 : tbytes Try.prog 13 = some 24 := by kernel_rfl
theorem tzero13 : tzero Try.prog 13 = some [.str (ByteArray.mk #[]), .int .u64 0] := by kernel_rfl
theorem tzv13 : tzv Try.prog 13 = some (.agg [.str (ByteArray.mk #[]), .int .u64 0]) := by kernel_rfl
theorem tplaces13 : tplaces Try.prog 13 = some [(0, 1), (1, 1)] := by kernel_rfl
theorem tfld13_0 : tfld Try.prog 13 0 = some (0, 9) := by kernel_rfl
theorem tfld13_1 : tfld Try.prog 13 1 = some (1, 12) := by kernel_rfl
theorem tsz14 : tsz Try.prog 14 = some 2 := by kernel_rfl
theorem tagg14 : tagg Try.prog 14 = some true := by kernel_rfl
theorem tarr14 : tarr Try.prog 14 = none := by kernel_rfl
theorem tbytes14 : tbytes Try.prog 14 = some 24 := by kernel_rfl
theorem tzero14 : tzero Try.prog 14 = some [.str (ByteArray.mk #[]), .int .u64 0] := by kernel_rfl
theorem tzv14 : tzv Try.prog 14 = some (.agg [.str (ByteArray.mk #[]), .int .u64 0]) := by kernel_rfl
theorem tplaces14 : tplaces Try.prog 14 = some [(0, 1), (1, 1)] := by kernel_rfl
theorem tfld14_0 : tfld Try.prog 14 0 = some (0, 9) := by kernel_rfl
theorem tfld14_1 : tfld Try.prog 14 1 = some (1, 12) := by kernel_rfl
theorem tsz15 : tsz Try.prog 15 = some 1 := by kernel_rfl
theorem tagg15 : tagg Try.prog 15 = some false := by kernel_rfl
theorem tbytes15 : tbytes Try.prog 15 = some 8 := by kernel_rfl
theorem tzero15 : tzero Try.prog 15 = some [.nilp] := by kernel_rfl
theorem tzv15 : tzv Try.prog 15 = some (.nilp) := by kernel_rfl
theorem tsz16 : tsz Try.prog 16 = some 1 := by kernel_rfl
theorem tagg16 : tagg Try.prog 16 = some false := by kernel_rfl
theorem tbytes16 : tbytes Try.prog 16 = some 8 := by kernel_rfl
theorem tzero16 : tzero Try.prog 16 = some [.nilp] := by kernel_rfl
theorem tzv16 : tzv Try.prog 16 = some (.nilp) := by kernel_rfl
theorem tsz17 : tsz Try.prog 17 = some 1 := by kernel_rfl
theorem tagg17 : tagg Try.prog 17 = some false := by kernel_rfl
theorem tbytes17 : tbytes Try.prog 17 = some 8 := by kernel_rfl
theorem tzero17 : tzero Try.prog 17 = some [.nilp] := by kernel_rfl
theorem tzv17 : tzv Try.prog 17 = some (.nilp) := by kernel_rfl
theorem tsz18 : tsz Try.prog 18 = some 1 := by kernel_rfl
theorem tagg18 : tagg Try.prog 18 = some true := by kernel_rfl
theorem tarr18 : tarr Try.prog 18 = none := by kernel_rfl
theorem tbytes18 : tbytes Try.prog 18 = some 8 := by kernel_rfl
theorem tzero18 : tzero Try.prog 18 = some [.nilp] := by kernel_rfl
theorem tzv18 : tzv Try.prog 18 = some (.agg [.nilp]) := by kernel_rfl
theorem tplaces18 : tplaces Try.prog 18 = some [(0, 1)] := by kernel_rfl
theorem tfld18_0 : tfld Try.prog 18 0 = some (0, 17) := by kernel_rfl
theorem tsz19 : tsz Try.prog 19 = some 1 := by kernel_rfl
theorem tagg19 : tagg Try.prog 19 = some true := by kernel_rfl
theorem tarr19 : tarr Try.prog 19 = none := by kernel_rfl
theorem tbytes19 : tbytes Try.prog 19 = some 8 := by kernel_rfl
theorem tzero19 : tzero Try.prog 19 = some [.nilp] := by kernel_rfl
theorem tzv19 : tzv Try.prog 19 = some (.agg [.nilp]) := by kernel_rfl
theorem tplaces19 : tplaces Try.prog 19 = some [(0, 1)] := by kernel_rfl
theorem tfld19_0 : tfld Try.prog 19 0 = some (0, 17) := by kernel_rfl
theorem tsz20 : tsz Try.prog 20 = some 1 := by kernel_rfl
theorem tagg20 : tagg Try.prog 20 = some false := by kernel_rfl
theorem tbytes20 : tbytes Try.prog 20 = some 16 := by kernel_rfl
theorem tsz21 : tsz Try.prog 21 = some 1 := by kernel_rfl
theorem tagg21 : tagg Try.prog 21 = some false := by kernel_rfl
theorem tint21 : tint Try.prog 21 = some .i32 := by kernel_rfl
theorem tund21 : (Try.prog.underlying 21).isSome = true := by kernel_rfl
theorem tbytes21 : tbytes Try.prog 21 = some 4 := by kernel_rfl
theorem tzero21 : tzero Try.prog 21 = some [.int .i32 0] := by kernel_rfl
theorem tzv21 : tzv Try.prog 21 = some (.int .i32 0) := by kernel_rfl
theorem tsz22 : tsz Try.prog 22 = some 1 := by kernel_rfl
theorem tagg22 : tagg Try.prog 22 = some false := by kernel_rfl
theorem tslice22 : tslice Try.prog 22 = some 45 := by kernel_rfl
theorem tbytes22 : tbytes Try.prog 22 = some 24 := by kernel_rfl
theorem tzero22 : tzero Try.prog 22 = some [.nils] := by kernel_rfl
theorem tzv22 : tzv Try.prog 22 = some (.nils) := by kernel_rfl
theorem tsz23 : tsz Try.prog 23 = some 1 := by kernel_rfl
theorem tagg23 : tagg Try.prog 23 = some false := by kernel_rfl
theorem tslice23 : tslice Try.prog 23 = some 56 := by kernel_rfl
theorem tbytes23 : tbytes Try.prog 23 = some 24 := by kernel_rfl
theorem tzero23 : tzero Try.prog 23 = some [.nils] := by kernel_rfl
theorem tzv23 : tzv Try.prog 23 = some (.nils) := by kernel_rfl
theorem tsz24 : tsz Try.prog 24 = some 2 := by kernel_rfl
theorem tagg24 : tagg Try.prog 24 = some true := by kernel_rfl
theorem tarr24 : tarr Try.prog 24 = none := by kernel_rfl
theorem tbytes24 : tbytes Try.prog 24 = some 16 := by kernel_rfl
theorem tzero24 : tzero Try.prog 24 = some [.int .i64 0, .int .i64 0] := by kernel_rfl
theorem tzv24 : tzv Try.prog 24 = some (.agg [.int .i64 0, .int .i64 0]) := by kernel_rfl
theorem tplaces24 : tplaces Try.prog 24 = some [(0, 1), (1, 1)] := by kernel_rfl
theorem tfld24_0 : tfld Try.prog 24 0 = some (0, 3) := by kernel_rfl
theorem tfld24_1 : tfld Try.prog 24 1 = some (1, 3) := by kernel_rfl
theorem tsz25 : tsz Try.prog 25 = some 2 := by kernel_rfl
theorem tagg25 : tagg Try.prog 25 = some true := by kernel_rfl
theorem tarr25 : tarr Try.prog 25 = none := by kernel_rfl
theorem tbytes25 : tbytes Try.prog 25 = some 16 := by kernel_rfl
theorem tzero25 : tzero Try.prog 25 = some [.int .i64 0, .int .i64 0] := by kernel_rfl
theorem tzv25 : tzv Try.prog 25 = some (.agg [.int .i64 0, .int .i64 0]) := by kernel_rfl
theorem tplaces25 : tplaces Try.prog 25 = some [(0, 1), (1, 1)] := by kernel_rfl
theorem tfld25_0 : tfld Try.prog 25 0 = some (0, 3) := by kernel_rfl
theorem tfld25_1 : tfld Try.prog 25 1 = some (1, 3) := by kernel_rfl
theorem tsz26 : tsz Try.prog 26 = some 5 := by kernel_rfl
theorem tagg26 : tagg Try.prog 26 = some true := by kernel_rfl
theorem tarr26 : tarr Try.prog 26 = none := by kernel_rfl
theorem tbytes26 : tbytes Try.prog 26 = some 72 := by kernel_rfl
theorem tzero26 : tzero Try.prog 26 = some [.nils, .nils, .int .i64 0, .int .i64 0, .int .i64 0] := by kernel_rfl
theorem tzv26 : tzv Try.prog 26 = some (.agg [.nils, .nils, .int .i64 0, .int .i64 0, .int .i64 0]) := by kernel_rfl
theorem tplaces26 : tplaces Try.prog 26 = some [(0, 1), (1, 1), (2, 1), (3, 2)] := by kernel_rfl
theorem tfld26_0 : tfld Try.prog 26 0 = some (0, 22) := by kernel_rfl
theorem tfld26_1 : tfld Try.prog 26 1 = some (1, 23) := by kernel_rfl
theorem tfld26_2 : tfld Try.prog 26 2 = some (2, 3) := by kernel_rfl
theorem tfld26_3 : tfld Try.prog 26 3 = some (3, 25) := by kernel_rfl
theorem tsz27 : tsz Try.prog 27 = some 5 := by kernel_rfl
theorem tagg27 : tagg Try.prog 27 = some true := by kernel_rfl
theorem tarr27 : tarr Try.prog 27 = none := by kernel_rfl
theorem tbytes27 : tbytes Try.prog 27 = some 72 := by kernel_rfl
theorem tzero27 : tzero Try.prog 27 = some [.nils, .nils, .int .i64 0, .int .i64 0, .int .i64 0] := by kernel_rfl
theorem tzv27 : tzv Try.prog 27 = some (.agg [.nils, .nils, .int .i64 0, .int .i64 0, .int .i64 0]) := by kernel_rfl
theorem tplaces27 : tplaces Try.prog 27 = some [(0, 1), (1, 1), (2, 1), (3, 2)] := by kernel_rfl
theorem tfld27_0 : tfld Try.prog 27 0 = some (0, 22) := by kernel_rfl
theorem tfld27_1 : tfld Try.prog 27 1 = some (1, 23) := by kernel_rfl
theorem tfld27_2 : tfld Try.prog 27 2 = some (2, 3) := by kernel_rfl
theorem tfld27_3 : tfld Try.prog 27 3 = some (3, 25) := by kernel_rfl
theorem tsz28 : tsz Try.prog 28 = some 1 := by kernel_rfl
theorem tagg28 : tagg Try.prog 28 = some false := by kernel_rfl
theorem tslice28 : tslice Try.prog 28 = some 49 := by kernel_rfl
theorem tbytes28 : tbytes Try.prog 28 = some 24 := by kernel_rfl
theorem tzero28 : tzero Try.prog 28 = some [.nils] := by kernel_rfl
theorem tzv28 : tzv Try.prog 28 = some (.nils) := by kernel_rfl
theorem tsz29 : tsz Try.prog 29 = some 1 := by kernel_rfl
theorem tagg29 : tagg Try.prog 29 = some false := by kernel_rfl
theorem tbytes29 : tbytes Try.prog 29 = some 8 := by kernel_rfl
theorem tzero29 : tzero Try.prog 29 = some [.nilf] := by kernel_rfl
theorem tzv29 : tzv Try.prog 29 = some (.nilf) := by kernel_rfl
theorem tsz30 : tsz Try.prog 30 = some 1 := by kernel_rfl
theorem tagg30 : tagg Try.prog 30 = some false := by kernel_rfl
theorem tbytes30 : tbytes Try.prog 30 = some 8 := by kernel_rfl
theorem tzero30 : tzero Try.prog 30 = some [.nilf] := by kernel_rfl
theorem tzv30 : tzv Try.prog 30 = some (.nilf) := by kernel_rfl
theorem tsz31 : tsz Try.prog 31 = some 1 := by kernel_rfl
theorem tagg31 : tagg Try.prog 31 = some false := by kernel_rfl
theorem tbytes31 : tbytes Try.prog 31 = some 8 := by kernel_rfl
theorem tzero31 : tzero Try.prog 31 = some [.nilf] := by kernel_rfl
theorem tzv31 : tzv Try.prog 31 = some (.nilf) := by kernel_rfl
theorem tsz32 : tsz Try.prog 32 = some 1 := by kernel_rfl
theorem tagg32 : tagg Try.prog 32 = some false := by kernel_rfl
theorem tslice32 : tslice Try.prog 32 = some 48 := by kernel_rfl
theorem tbytes32 : tbytes Try.prog 32 = some 24 := by kernel_rfl
theorem tzero32 : tzero Try.prog 32 = some [.nils] := by kernel_rfl
theorem tzv32 : tzv Try.prog 32 = some (.nils) := by kernel_rfl
theorem tsz33 : tsz Try.prog 33 = some 1 := by kernel_rfl
theorem tagg33 : tagg Try.prog 33 = some false := by kernel_rfl
theorem tint33 : tint Try.prog 33 = some .i64 := by kernel_rfl
theorem tund33 : (Try.prog.underlying 33).isSome = true := by kernel_rfl
theorem tbytes33 : tbytes Try.prog 33 = some 8 := by kernel_rfl
theorem tzero33 : tzero Try.prog 33 = some [.int .i64 0] := by kernel_rfl
theorem tzv33 : tzv Try.prog 33 = some (.int .i64 0) := by kernel_rfl
theorem tsz34 : tsz Try.prog 34 = some 1 := by kernel_rfl
theorem tagg34 : tagg Try.prog 34 = some false := by kernel_rfl
theorem tbytes34 : tbytes Try.prog 34 = some 0 := by kernel_rfl
theorem tsz35 : tsz Try.prog 35 = some 1 := by kernel_rfl
theorem tagg35 : tagg Try.prog 35 = some false := by kernel_rfl
theorem tbytes35 : tbytes Try.prog 35 = some 8 := by kernel_rfl
theorem tzero35 : tzero Try.prog 35 = some [.nilf] := by kernel_rfl
theorem tzv35 : tzv Try.prog 35 = some (.nilf) := by kernel_rfl
theorem tsz36 : tsz Try.prog 36 = some 1 := by kernel_rfl
theorem tagg36 : tagg Try.prog 36 = some false := by kernel_rfl
theorem tslice36 : tslice Try.prog 36 = some 106 := by kernel_rfl
theorem tbytes36 : tbytes Try.prog 36 = some 24 := by kernel_rfl
theorem tzero36 : tzero Try.prog 36 = some [.nils] := by kernel_rfl
theorem tzv36 : tzv Try.prog 36 = some (.nils) := by kernel_rfl
theorem tsz37 : tsz Try.prog 37 = some 1 := by kernel_rfl
theorem tagg37 : tagg Try.prog 37 = some false := by kernel_rfl
theorem tslice37 : tslice Try.prog 37 = some 91 := by kernel_rfl
theorem tbytes37 : tbytes Try.prog 37 = some 24 := by kernel_rfl
theorem tzero37 : tzero Try.prog 37 = some [.nils] := by kernel_rfl
theorem tzv37 : tzv Try.prog 37 = some (.nils) := by kernel_rfl
theorem tsz38 : tsz Try.prog 38 = some 2 := by kernel_rfl
theorem tagg38 : tagg Try.prog 38 = some true := by kernel_rfl
theorem tarr38 : tarr Try.prog 38 = none := by kernel_rfl
theorem tbytes38 : tbytes Try.prog 38 = some 16 := by kernel_rfl
theorem tzero38 : tzero Try.prog 38 = some [.int .i64 0, .int .i64 0] := by kernel_rfl
theorem tzv38 : tzv Try.prog 38 = some (.agg [.int .i64 0, .int .i64 0]) := by kernel_rfl
theorem tplaces38 : tplaces Try.prog 38 = some [(0, 1), (1, 1)] := by kernel_rfl
theorem tfld38_0 : tfld Try.prog 38 0 = some (0, 3) := by kernel_rfl
theorem tfld38_1 : tfld Try.prog 38 1 = some (1, 3) := by kernel_rfl
theorem tsz39 : tsz Try.prog 39 = some 5 := by kernel_rfl
theorem tagg39 : tagg Try.prog 39 = some true := by kernel_rfl
theorem tarr39 : tarr Try.prog 39 = none := by kernel_rfl
theorem tbytes39 : tbytes Try.prog 39 = some 72 := by kernel_rfl
theorem tzero39 : tzero Try.prog 39 = some [.nils, .nils, .int .i64 0, .int .i64 0, .int .i64 0] := by kernel_rfl
theorem tzv39 : tzv Try.prog 39 = some (.agg [.nils, .nils, .int .i64 0, .int .i64 0, .int .i64 0]) := by kernel_rfl
theorem tplaces39 : tplaces Try.prog 39 = some [(0, 1), (1, 1), (2, 1), (3, 2)] := by kernel_rfl
theorem tfld39_0 : tfld Try.prog 39 0 = some (0, 36) := by kernel_rfl
theorem tfld39_1 : tfld Try.prog 39 1 = some (1, 37) := by kernel_rfl
theorem tfld39_2 : tfld Try.prog 39 2 = some (2, 3) := by kernel_rfl
theorem tfld39_3 : tfld Try.prog 39 3 = some (3, 38) := by kernel_rfl
theorem tsz40 : tsz Try.prog 40 = some 5 := by kernel_rfl
theorem tagg40 : tagg Try.prog 40 = some true := by kernel_rfl
theorem tarr40 : tarr Try.prog 40 = none := by kernel_rfl
theorem tbytes40 : tbytes Try.prog 40 = some 72 := by kernel_rfl
theorem tzero40 : tzero Try.prog 40 = some [.nils, .nils, .int .i64 0, .int .i64 0, .int .i64 0] := by kernel_rfl
theorem tzv40 : tzv Try.prog 40 = some (.agg [.nils, .nils, .int .i64 0, .int .i64 0, .int .i64 0]) := by kernel_rfl
theorem tplaces40 : tplaces Try.prog 40 = some [(0, 1), (1, 1), (2, 1), (3, 2)] := by kernel_rfl
theorem tfld40_0 : tfld Try.prog 40 0 = some (0, 36) := by kernel_rfl
theorem tfld40_1 : tfld Try.prog 40 1 = some (1, 37) := by kernel_rfl
theorem tfld40_2 : tfld Try.prog 40 2 = some (2, 3) := by kernel_rfl
theorem tfld40_3 : tfld Try.prog 40 3 = some (3, 38) := by kernel_rfl
theorem tsz41 : tsz Try.prog 41 = some 1 := by kernel_rfl
theorem tagg41 : tagg Try.prog 41 = some false := by kernel_rfl
theorem tbytes41 : tbytes Try.prog 41 = some 8 := by kernel_rfl
theorem tzero41 : tzero Try.prog 41 = some [.nilf] := by kernel_rfl
theorem tzv41 : tzv Try.prog 41 = some (.nilf) := by kernel_rfl
theorem tsz42 : tsz Try.prog 42 = some 1 := by kernel_rfl
theorem tagg42 : tagg Try.prog 42 = some false := by kernel_rfl
theorem tbytes42 : tbytes Try.prog 42 = some 8 := by kernel_rfl
theorem tzero42 : tzero Try.prog 42 = some [.nilf] := by kernel_rfl
theorem tzv42 : tzv Try.prog 42 = some (.nilf) := by kernel_rfl
theorem tsz43 : tsz Try.prog 43 = some 1 := by kernel_rfl
theorem tagg43 : tagg Try.prog 43 = some false := by kernel_rfl
theorem tbytes43 : tbytes Try.prog 43 = some 8 := by kernel_rfl
theorem tzero43 : tzero Try.prog 43 = some [.nilf] := by kernel_rfl
theorem tzv43 : tzv Try.prog 43 = some (.nilf) := by kernel_rfl
theorem tsz44 : tsz Try.prog 44 = some 6 := by kernel_rfl
theorem tagg44 : tagg Try.prog 44 = some true := by kernel_rfl
theorem tarr44 : tarr Try.prog 44 = none := by kernel_rfl
theorem tbytes44 : tbytes Try.prog 44 = some 48 := by kernel_rfl
theorem tzero44 : tzero Try.prog 44 = some [.int .i64 0, .int .u8 0, .int .i64 0, .int .i64 0, .int .i64 0, .int .i64 0] := by kernel_rfl
theorem tzv44 : tzv Try.prog 44 = some (.agg [.int .i64 0, .int .u8 0, .int .i64 0, .int .i64 0, .int .i64 0, .int .i64 0]) := by kernel_rfl
theorem tplaces44 : tplaces Try.prog 44 = some [(0, 1), (1, 1), (2, 2), (4, 1), (5, 1)] := by kernel_rfl
theorem tfld44_0 : tfld Try.prog 44 0 = some (0, 3) := by kernel_rfl
theorem tfld44_1 : tfld Try.prog 44 1 = some (1, 5) := by kernel_rfl
theorem tfld44_2 : tfld Try.prog 44 2 = some (2, 25) := by kernel_rfl
theorem tfld44_3 : tfld Try.prog 44 3 = some (4, 3) := by kernel_rfl
theorem tfld44_4 : tfld Try.prog 44 4 = some (5, 3) := by kernel_rfl
theorem tsz45 : tsz Try.prog 45 = some 6 := by kernel_rfl
theorem tagg45 : tagg Try.prog 45 = some true := by kernel_rfl
theorem tarr45 : tarr Try.prog 45 = none := by kernel_rfl
theorem tbytes45 : tbytes Try.prog 45 = some 48 := by kernel_rfl
theorem tzero45 : tzero Try.prog 45 = some [.int .i64 0, .int .u8 0, .int .i64 0, .int .i64 0, .int .i64 0, .int .i64 0] := by kernel_rfl
theorem tzv45 : tzv Try.prog 45 = some (.agg [.int .i64 0, .int .u8 0, .int .i64 0, .int .i64 0, .int .i64 0, .int .i64 0]) := by kernel_rfl
theorem tplaces45 : tplaces Try.prog 45 = some [(0, 1), (1, 1), (2, 2), (4, 1), (5, 1)] := by kernel_rfl
theorem tfld45_0 : tfld Try.prog 45 0 = some (0, 3) := by kernel_rfl
theorem tfld45_1 : tfld Try.prog 45 1 = some (1, 5) := by kernel_rfl
theorem tfld45_2 : tfld Try.prog 45 2 = some (2, 25) := by kernel_rfl
theorem tfld45_3 : tfld Try.prog 45 3 = some (4, 3) := by kernel_rfl
theorem tfld45_4 : tfld Try.prog 45 4 = some (5, 3) := by kernel_rfl
theorem tsz46 : tsz Try.prog 46 = some 1 := by kernel_rfl
theorem tagg46 : tagg Try.prog 46 = some false := by kernel_rfl
theorem tslice46 : tslice Try.prog 46 = some 3 := by kernel_rfl
theorem tbytes46 : tbytes Try.prog 46 = some 24 := by kernel_rfl
theorem tzero46 : tzero Try.prog 46 = some [.nils] := by kernel_rfl
theorem tzv46 : tzv Try.prog 46 = some (.nils) := by kernel_rfl
theorem tsz47 : tsz Try.prog 47 = some 3 := by kernel_rfl
theorem tagg47 : tagg Try.prog 47 = some true := by kernel_rfl
theorem tarr47 : tarr Try.prog 47 = none := by kernel_rfl
theorem tbytes47 : tbytes Try.prog 47 = some 40 := by kernel_rfl
theorem tzero47 : tzero Try.prog 47 = some [.int .i64 0, .int .i64 0, .nils] := by kernel_rfl
theorem tzv47 : tzv Try.prog 47 = some (.agg [.int .i64 0, .int .i64 0, .nils]) := by kernel_rfl
theorem tplaces47 : tplaces Try.prog 47 = some [(0, 1), (1, 1), (2, 1)] := by kernel_rfl
theorem tfld47_0 : tfld Try.prog 47 0 = some (0, 3) := by kernel_rfl
theorem tfld47_1 : tfld Try.prog 47 1 = some (1, 3) := by kernel_rfl
theorem tfld47_2 : tfld Try.prog 47 2 = some (2, 46) := by kernel_rfl
theorem tsz48 : tsz Try.prog 48 = some 3 := by kernel_rfl
theorem tagg48 : tagg Try.prog 48 = some true := by kernel_rfl
theorem tarr48 : tarr Try.prog 48 = none := by kernel_rfl
theorem tbytes48 : tbytes Try.prog 48 = some 40 := by kernel_rfl
theorem tzero48 : tzero Try.prog 48 = some [.int .i64 0, .int .i64 0, .nils] := by kernel_rfl
theorem tzv48 : tzv Try.prog 48 = some (.agg [.int .i64 0, .int .i64 0, .nils]) := by kernel_rfl
theorem tplaces48 : tplaces Try.prog 48 = some [(0, 1), (1, 1), (2, 1)] := by kernel_rfl
theorem tfld48_0 : tfld Try.prog 48 0 = some (0, 3) := by kernel_rfl
theorem tfld48_1 : tfld Try.prog 48 1 = some (1, 3) := by kernel_rfl
theorem tfld48_2 : tfld Try.prog 48 2 = some (2, 46) := by kernel_rfl
theorem tsz49 : tsz Try.prog 49 = some 3 := by kernel_rfl
theorem tagg49 : tagg Try.prog 49 = some true := by kernel_rfl
theorem tarr49 : tarr Try.prog 49 = none := by kernel_rfl
theorem tbytes49 : tbytes Try.prog 49 = some 40 := by kernel_rfl
theorem tzero49 : tzero Try.prog 49 = some [.int .i64 0, .int .i64 0, .nils] := by kernel_rfl
theorem tzv49 : tzv Try.prog 49 = some (.agg [.int .i64 0, .int .i64 0, .nils]) := by kernel_rfl
theorem tplaces49 : tplaces Try.prog 49 = some [(0, 1), (1, 1), (2, 1)] := by kernel_rfl
theorem tfld49_0 : tfld Try.prog 49 0 = some (0, 3) := by kernel_rfl
theorem tfld49_1 : tfld Try.prog 49 1 = some (1, 3) := by kernel_rfl
theorem tfld49_2 : tfld Try.prog 49 2 = some (2, 46) := by kernel_rfl
theorem tsz50 : tsz Try.prog 50 = some 1 := by kernel_rfl
theorem tagg50 : tagg Try.prog 50 = some false := by kernel_rfl
theorem tbytes50 : tbytes Try.prog 50 = some 8 := by kernel_rfl
theorem tzero50 : tzero Try.prog 50 = some [.nilf] := by kernel_rfl
theorem tzv50 : tzv Try.prog 50 = some (.nilf) := by kernel_rfl
theorem tsz51 : tsz Try.prog 51 = some 1 := by kernel_rfl
theorem tagg51 : tagg Try.prog 51 = some false := by kernel_rfl
theorem tbytes51 : tbytes Try.prog 51 = some 8 := by kernel_rfl
theorem tzero51 : tzero Try.prog 51 = some [.nilf] := by kernel_rfl
theorem tzv51 : tzv Try.prog 51 = some (.nilf) := by kernel_rfl
theorem tsz52 : tsz Try.prog 52 = some 1 := by kernel_rfl
theorem tagg52 : tagg Try.prog 52 = some false := by kernel_rfl
theorem tint52 : tint Try.prog 52 = some .u16 := by kernel_rfl
theorem tund52 : (Try.prog.underlying 52).isSome = true := by kernel_rfl
theorem tbytes52 : tbytes Try.prog 52 = some 2 := by kernel_rfl
theorem tzero52 : tzero Try.prog 52 = some [.int .u16 0] := by kernel_rfl
theorem tzv52 : tzv Try.prog 52 = some (.int .u16 0) := by kernel_rfl
theorem tsz53 : tsz Try.prog 53 = some 1 := by kernel_rfl
theorem tagg53 : tagg Try.prog 53 = some false := by kernel_rfl
theorem tbytes53 : tbytes Try.prog 53 = some 8 := by kernel_rfl
theorem tzero53 : tzero Try.prog 53 = some [.nilp] := by kernel_rfl
theorem tzv53 : tzv Try.prog 53 = some (.nilp) := by kernel_rfl
theorem tsz54 : tsz Try.prog 54 = some 1 := by kernel_rfl
theorem tagg54 : tagg Try.prog 54 = some false := by kernel_rfl
theorem tbytes54 : tbytes Try.prog 54 = some 8 := by kernel_rfl
theorem tzero54 : tzero Try.prog 54 = some [.nilp] := by kernel_rfl
theorem tzv54 : tzv Try.prog 54 = some (.nilp) := by kernel_rfl
theorem tsz55 : tsz Try.prog 55 = some 3 := by kernel_rfl
theorem tagg55 : tagg Try.prog 55 = some true := by kernel_rfl
theorem tarr55 : tarr Try.prog 55 = none := by kernel_rfl
theorem tbytes55 : tbytes Try.prog 55 = some 24 := by kernel_rfl
theorem tzero55 : tzero Try.prog 55 = some [.int .i64 0, .int .u8 0, .int .i64 0] := by kernel_rfl
theorem tzv55 : tzv Try.prog 55 = some (.agg [.int .i64 0, .int .u8 0, .int .i64 0]) := by kernel_rfl
theorem tplaces55 : tplaces Try.prog 55 = some [(0, 1), (1, 1), (2, 1)] := by kernel_rfl
theorem tfld55_0 : tfld Try.prog 55 0 = some (0, 3) := by kernel_rfl
theorem tfld55_1 : tfld Try.prog 55 1 = some (1, 5) := by kernel_rfl
theorem tfld55_2 : tfld Try.prog 55 2 = some (2, 3) := by kernel_rfl
theorem tsz56 : tsz Try.prog 56 = some 3 := by kernel_rfl
theorem tagg56 : tagg Try.prog 56 = some true := by kernel_rfl
theorem tarr56 : tarr Try.prog 56 = none := by kernel_rfl
theorem tbytes56 : tbytes Try.prog 56 = some 24 := by kernel_rfl
theorem tzero56 : tzero Try.prog 56 = some [.int .i64 0, .int .u8 0, .int .i64 0] := by kernel_rfl
theorem tzv56 : tzv Try.prog 56 = some (.agg [.int .i64 0, .int .u8 0, .int .i64 0]) := by kernel_rfl
theorem tplaces56 : tplaces Try.prog 56 = some [(0, 1), (1, 1), (2, 1)] := by kernel_rfl
theorem tfld56_0 : tfld Try.prog 56 0 = some (0, 3) := by kernel_rfl
theorem tfld56_1 : tfld Try.prog 56 1 = some (1, 5) := by kernel_rfl
theorem tfld56_2 : tfld Try.prog 56 2 = some (2, 3) := by kernel_rfl
theorem tsz57 : tsz Try.prog 57 = some 1 := by kernel_rfl
theorem tagg57 : tagg Try.prog 57 = some false := by kernel_rfl
theorem tbytes57 : tbytes Try.prog 57 = some 8 := by kernel_rfl
theorem tzero57 : tzero Try.prog 57 = some [.nilf] := by kernel_rfl
theorem tzv57 : tzv Try.prog 57 = some (.nilf) := by kernel_rfl
theorem tsz58 : tsz Try.prog 58 = some 1 := by kernel_rfl
theorem tagg58 : tagg Try.prog 58 = some false := by kernel_rfl
theorem tbytes58 : tbytes Try.prog 58 = some 0 := by kernel_rfl
theorem tsz59 : tsz Try.prog 59 = some 1 := by kernel_rfl
theorem tagg59 : tagg Try.prog 59 = some false := by kernel_rfl
theorem tbytes59 : tbytes Try.prog 59 = some 8 := by kernel_rfl
theorem tzero59 : tzero Try.prog 59 = some [.nilf] := by kernel_rfl
theorem tzv59 : tzv Try.prog 59 = some (.nilf) := by kernel_rfl
theorem tsz60 : tsz Try.prog 60 = some 1 := by kernel_rfl
theorem tagg60 : tagg Try.prog 60 = some false := by kernel_rfl
theorem tbytes60 : tbytes Try.prog 60 = some 8 := by kernel_rfl
theorem tzero60 : tzero Try.prog 60 = some [.nilf] := by kernel_rfl
theorem tzv60 : tzv Try.prog 60 = some (.nilf) := by kernel_rfl
theorem tsz61 : tsz Try.prog 61 = some 1 := by kernel_rfl
theorem tagg61 : tagg Try.prog 61 = some false := by kernel_rfl
theorem tint61 : tint Try.prog 61 = some .i8 := by kernel_rfl
theorem tund61 : (Try.prog.underlying 61).isSome = true := by kernel_rfl
theorem tbytes61 : tbytes Try.prog 61 = some 1 := by kernel_rfl
theorem tzero61 : tzero Try.prog 61 = some [.int .i8 0] := by kernel_rfl
theorem tzv61 : tzv Try.prog 61 = some (.int .i8 0) := by kernel_rfl
theorem tsz62 : tsz Try.prog 62 = some 1 := by kernel_rfl
theorem tagg62 : tagg Try.prog 62 = some false := by kernel_rfl
theorem tbytes62 : tbytes Try.prog 62 = some 0 := by kernel_rfl
theorem tsz63 : tsz Try.prog 63 = some 1 := by kernel_rfl
theorem tagg63 : tagg Try.prog 63 = some false := by kernel_rfl
theorem tbytes63 : tbytes Try.prog 63 = some 8 := by kernel_rfl
theorem tzero63 : tzero Try.prog 63 = some [.nilf] := by kernel_rfl
theorem tzv63 : tzv Try.prog 63 = some (.nilf) := by kernel_rfl
theorem tsz64 : tsz Try.prog 64 = some 1 := by kernel_rfl
theorem tagg64 : tagg Try.prog 64 = some false := by kernel_rfl
theorem tbytes64 : tbytes Try.prog 64 = some 8 := by kernel_rfl
theorem tzero64 : tzero Try.prog 64 = some [.nilf] := by kernel_rfl
theorem tzv64 : tzv Try.prog 64 = some (.nilf) := by kernel_rfl
theorem tsz65 : tsz Try.prog 65 = some 1 := by kernel_rfl
theorem tagg65 : tagg Try.prog 65 = some false := by kernel_rfl
theorem tbytes65 : tbytes Try.prog 65 = some 8 := by kernel_rfl
theorem tzero65 : tzero Try.prog 65 = some [.nilf] := by kernel_rfl
theorem tzv65 : tzv Try.prog 65 = some (.nilf) := by kernel_rfl
theorem tsz66 : tsz Try.prog 66 = some 1 := by kernel_rfl
theorem tagg66 : tagg Try.prog 66 = some false := by kernel_rfl
theorem tbytes66 : tbytes Try.prog 66 = some 8 := by kernel_rfl
theorem tzero66 : tzero Try.prog 66 = some [.nilf] := by kernel_rfl
theorem tzv66 : tzv Try.prog 66 = some (.nilf) := by kernel_rfl
theorem tsz67 : tsz Try.prog 67 = some 1 := by kernel_rfl
theorem tagg67 : tagg Try.prog 67 = some false := by kernel_rfl
theorem tbytes67 : tbytes Try.prog 67 = some 8 := by kernel_rfl
theorem tzero67 : tzero Try.prog 67 = some [.nilp] := by kernel_rfl
theorem tzv67 : tzv Try.prog 67 = some (.nilp) := by kernel_rfl
theorem tsz68 : tsz Try.prog 68 = some 1 := by kernel_rfl
theorem tagg68 : tagg Try.prog 68 = some false := by kernel_rfl
theorem tbytes68 : tbytes Try.prog 68 = some 8 := by kernel_rfl
theorem tzero68 : tzero Try.prog 68 = some [.nilf] := by kernel_rfl
theorem tzv68 : tzv Try.prog 68 = some (.nilf) := by kernel_rfl
theorem tsz69 : tsz Try.prog 69 = some 1 := by kernel_rfl
theorem tagg69 : tagg Try.prog 69 = some false := by kernel_rfl
theorem tbytes69 : tbytes Try.prog 69 = some 8 := by kernel_rfl
theorem tzero69 : tzero Try.prog 69 = some [.nilf] := by kernel_rfl
theorem tzv69 : tzv Try.prog 69 = some (.nilf) := by kernel_rfl
theorem tsz70 : tsz Try.prog 70 = some 1 := by kernel_rfl
theorem tagg70 : tagg Try.prog 70 = some false := by kernel_rfl
theorem tbytes70 : tbytes Try.prog 70 = some 8 := by kernel_rfl
theorem tzero70 : tzero Try.prog 70 = some [.nilf] := by kernel_rfl
theorem tzv70 : tzv Try.prog 70 = some (.nilf) := by kernel_rfl
theorem tsz71 : tsz Try.prog 71 = some 1 := by kernel_rfl
theorem tagg71 : tagg Try.prog 71 = some false := by kernel_rfl
theorem tbytes71 : tbytes Try.prog 71 = some 8 := by kernel_rfl
theorem tzero71 : tzero Try.prog 71 = some [.nilf] := by kernel_rfl
theorem tzv71 : tzv Try.prog 71 = some (.nilf) := by kernel_rfl
theorem tsz72 : tsz Try.prog 72 = some 1 := by kernel_rfl
theorem tagg72 : tagg Try.prog 72 = some false := by kernel_rfl
theorem tbytes72 : tbytes Try.prog 72 = some 8 := by kernel_rfl
theorem tzero72 : tzero Try.prog 72 = some [.nilf] := by kernel_rfl
theorem tzv72 : tzv Try.prog 72 = some (.nilf) := by kernel_rfl
theorem tsz73 : tsz Try.prog 73 = some 1 := by kernel_rfl
theorem tagg73 : tagg Try.prog 73 = some false := by kernel_rfl
theorem tbytes73 : tbytes Try.prog 73 = some 8 := by kernel_rfl
theorem tzero73 : tzero Try.prog 73 = some [.nilf] := by kernel_rfl
theorem tzv73 : tzv Try.prog 73 = some (.nilf) := by kernel_rfl
theorem tsz74 : tsz Try.prog 74 = some 1 := by kernel_rfl
theorem tagg74 : tagg Try.prog 74 = some false := by kernel_rfl
theorem tbytes74 : tbytes Try.prog 74 = some 8 := by kernel_rfl
theorem tzero74 : tzero Try.prog 74 = some [.nilf] := by kernel_rfl
theorem tzv74 : tzv Try.prog 74 = some (.nilf) := by kernel_rfl
theorem tsz75 : tsz Try.prog 75 = some 1 := by kernel_rfl
theorem tagg75 : tagg Try.prog 75 = some false := by kernel_rfl
theorem tbytes75 : tbytes Try.prog 75 = some 8 := by kernel_rfl
theorem tzero75 : tzero Try.prog 75 = some [.nilf] := by kernel_rfl
theorem tzv75 : tzv Try.prog 75 = some (.nilf) := by kernel_rfl
theorem tsz76 : tsz Try.prog 76 = some 1 := by kernel_rfl
theorem tagg76 : tagg Try.prog 76 = some false := by kernel_rfl
theorem tslice76 : tslice Try.prog 76 = some 52 := by kernel_rfl
theorem tbytes76 : tbytes Try.prog 76 = some 24 := by kernel_rfl
theorem tzero76 : tzero Try.prog 76 = some [.nils] := by kernel_rfl
theorem tzv76 : tzv Try.prog 76 = some (.nils) := by kernel_rfl
theorem tsz77 : tsz Try.prog 77 = some 1 := by kernel_rfl
theorem tagg77 : tagg Try.prog 77 = some false := by kernel_rfl
theorem tbytes77 : tbytes Try.prog 77 = some 8 := by kernel_rfl
theorem tzero77 : tzero Try.prog 77 = some [.nilf] := by kernel_rfl
theorem tzv77 : tzv Try.prog 77 = some (.nilf) := by kernel_rfl
theorem tsz78 : tsz Try.prog 78 = some 1 := by kernel_rfl
theorem tagg78 : tagg Try.prog 78 = some false := by kernel_rfl
theorem tbytes78 : tbytes Try.prog 78 = some 8 := by kernel_rfl
theorem tzero78 : tzero Try.prog 78 = some [.nilf] := by kernel_rfl
theorem tzv78 : tzv Try.prog 78 = some (.nilf) := by kernel_rfl
theorem tsz79 : tsz Try.prog 79 = some 1 := by kernel_rfl
theorem tagg79 : tagg Try.prog 79 = some false := by kernel_rfl
theorem tbytes79 : tbytes Try.prog 79 = some 0 := by kernel_rfl
theorem tsz80 : tsz Try.prog 80 = some 1 := by kernel_rfl
theorem tagg80 : tagg Try.prog 80 = some false := by kernel_rfl
theorem tbytes80 : tbytes Try.prog 80 = some 8 := by kernel_rfl
theorem tzero80 : tzero Try.prog 80 = some [.nilf] := by kernel_rfl
theorem tzv80 : tzv Try.prog 80 = some (.nilf) := by kernel_rfl
theorem tsz81 : tsz Try.prog 81 = some 1 := by kernel_rfl
theorem tagg81 : tagg Try.prog 81 = some false := by kernel_rfl
theorem tbytes81 : tbytes Try.prog 81 = some 8 := by kernel_rfl
theorem tzero81 : tzero Try.prog 81 = some [.nilf] := by kernel_rfl
theorem tzv81 : tzv Try.prog 81 = some (.nilf) := by kernel_rfl
theorem tsz82 : tsz Try.prog 82 = some 1 := by kernel_rfl
theorem tagg82 : tagg Try.prog 82 = some false := by kernel_rfl
theorem tbytes82 : tbytes Try.prog 82 = some 8 := by kernel_rfl
theorem tzero82 : tzero Try.prog 82 = some [.nilf] := by kernel_rfl
theorem tzv82 : tzv Try.prog 82 = some (.nilf) := by kernel_rfl
theorem tsz83 : tsz Try.prog 83 = some 1 := by kernel_rfl
theorem tagg83 : tagg Try.prog 83 = some false := by kernel_rfl
theorem tbytes83 : tbytes Try.prog 83 = some 8 := by kernel_rfl
theorem tzero83 : tzero Try.prog 83 = some [.nilf] := by kernel_rfl
theorem tzv83 : tzv Try.prog 83 = some (.nilf) := by kernel_rfl
theorem tsz84 : tsz Try.prog 84 = some 1 := by kernel_rfl
theorem tagg84 : tagg Try.prog 84 = some false := by kernel_rfl
theorem tbytes84 : tbytes Try.prog 84 = some 8 := by kernel_rfl
theorem tzero84 : tzero Try.prog 84 = some [.nilf] := by kernel_rfl
theorem tzv84 : tzv Try.prog 84 = some (.nilf) := by kernel_rfl
theorem tsz85 : tsz Try.prog 85 = some 1 := by kernel_rfl
theorem tagg85 : tagg Try.prog 85 = some false := by kernel_rfl
theorem tbytes85 : tbytes Try.prog 85 = some 8 := by kernel_rfl
theorem tzero85 : tzero Try.prog 85 = some [.nilf] := by kernel_rfl
theorem tzv85 : tzv Try.prog 85 = some (.nilf) := by kernel_rfl
theorem tsz86 : tsz Try.prog 86 = some 1 := by kernel_rfl
theorem tagg86 : tagg Try.prog 86 = some false := by kernel_rfl
theorem tbytes86 : tbytes Try.prog 86 = some 8 := by kernel_rfl
theorem tzero86 : tzero Try.prog 86 = some [.nilf] := by kernel_rfl
theorem tzv86 : tzv Try.prog 86 = some (.nilf) := by kernel_rfl
theorem tsz87 : tsz Try.prog 87 = some 1 := by kernel_rfl
theorem tagg87 : tagg Try.prog 87 = some false := by kernel_rfl
theorem tbytes87 : tbytes Try.prog 87 = some 8 := by kernel_rfl
theorem tzero87 : tzero Try.prog 87 = some [.nilf] := by kernel_rfl
theorem tzv87 : tzv Try.prog 87 = some (.nilf) := by kernel_rfl
theorem tsz88 : tsz Try.prog 88 = some 1 := by kernel_rfl
theorem tagg88 : tagg Try.prog 88 = some false := by kernel_rfl
theorem tbytes88 : tbytes Try.prog 88 = some 8 := by kernel_rfl
theorem tzero88 : tzero Try.prog 88 = some [.nilf] := by kernel_rfl
theorem tzv88 : tzv Try.prog 88 = some (.nilf) := by kernel_rfl
theorem tsz89 : tsz Try.prog 89 = some 1 := by kernel_rfl
theorem tagg89 : tagg Try.prog 89 = some false := by kernel_rfl
theorem tbytes89 : tbytes Try.prog 89 = some 8 := by kernel_rfl
theorem tzero89 : tzero Try.prog 89 = some [.nilf] := by kernel_rfl
theorem tzv89 : tzv Try.prog 89 = some (.nilf) := by kernel_rfl
theorem tsz90 : tsz Try.prog 90 = some 1 := by kernel_rfl
theorem tagg90 : tagg Try.prog 90 = some false := by kernel_rfl
theorem tbytes90 : tbytes Try.prog 90 = some 8 := by kernel_rfl
theorem tzero90 : tzero Try.prog 90 = some [.nilf] := by kernel_rfl
theorem tzv90 : tzv Try.prog 90 = some (.nilf) := by kernel_rfl
theorem tsz91 : tsz Try.prog 91 = some 3 := by kernel_rfl
theorem tagg91 : tagg Try.prog 91 = some true := by kernel_rfl
theorem tarr91 : tarr Try.prog 91 = none := by kernel_rfl
theorem tbytes91 : tbytes Try.prog 91 = some 24 := by kernel_rfl
theorem tzero91 : tzero Try.prog 91 = some [.int .i64 0, .int .u8 0, .int .i64 0] := by kernel_rfl
theorem tzv91 : tzv Try.prog 91 = some (.agg [.int .i64 0, .int .u8 0, .int .i64 0]) := by kernel_rfl
theorem tplaces91 : tplaces Try.prog 91 = some [(0, 1), (1, 1), (2, 1)] := by kernel_rfl
theorem tfld91_0 : tfld Try.prog 91 0 = some (0, 3) := by kernel_rfl
theorem tfld91_1 : tfld Try.prog 91 1 = some (1, 5) := by kernel_rfl
theorem tfld91_2 : tfld Try.prog 91 2 = some (2, 3) := by kernel_rfl
theorem tsz92 : tsz Try.prog 92 = some 1 := by kernel_rfl
theorem tagg92 : tagg Try.prog 92 = some false := by kernel_rfl
theorem tbytes92 : tbytes Try.prog 92 = some 8 := by kernel_rfl
theorem tzero92 : tzero Try.prog 92 = some [.nilf] := by kernel_rfl
theorem tzv92 : tzv Try.prog 92 = some (.nilf) := by kernel_rfl
theorem tsz93 : tsz Try.prog 93 = some 1 := by kernel_rfl
theorem tagg93 : tagg Try.prog 93 = some false := by kernel_rfl
theorem tbytes93 : tbytes Try.prog 93 = some 8 := by kernel_rfl
theorem tzero93 : tzero Try.prog 93 = some [.nilp] := by kernel_rfl
theorem tzv93 : tzv Try.prog 93 = some (.nilp) := by kernel_rfl
theorem tsz94 : tsz Try.prog 94 = some 1 := by kernel_rfl
theorem tagg94 : tagg Try.prog 94 = some false := by kernel_rfl
theorem tbytes94 : tbytes Try.prog 94 = some 8 := by kernel_rfl
theorem tzero94 : tzero Try.prog 94 = some [.nilf] := by kernel_rfl
theorem tzv94 : tzv Try.prog 94 = some (.nilf) := by kernel_rfl
theorem tsz95 : tsz Try.prog 95 = some 1 := by kernel_rfl
theorem tagg95 : tagg Try.prog 95 = some false := by kernel_rfl
theorem tint95 : tint Try.prog 95 = some .u8 := by kernel_rfl
theorem tund95 : (Try.prog.underlying 95).isSome = true := by kernel_rfl
theorem tbytes95 : tbytes Try.prog 95 = some 1 := by kernel_rfl
theorem tzero95 : tzero Try.prog 95 = some [.int .u8 0] := by kernel_rfl
theorem tzv95 : tzv Try.prog 95 = some (.int .u8 0) := by kernel_rfl
theorem tsz96 : tsz Try.prog 96 = some 3 := by kernel_rfl
theorem tagg96 : tagg Try.prog 96 = some true := by kernel_rfl
theorem tslice96 : tslice Try.prog 96 = none := by kernel_rfl
theorem tarr96 : tarr Try.prog 96 = some (3, 3) := by kernel_rfl
theorem tbytes96 : tbytes Try.prog 96 = some 24 := by kernel_rfl
theorem tzero96 : tzero Try.prog 96 = some [.int .i64 0, .int .i64 0, .int .i64 0] := by kernel_rfl
theorem tzv96 : tzv Try.prog 96 = some (.agg [.int .i64 0, .int .i64 0, .int .i64 0]) := by kernel_rfl
theorem tsz97 : tsz Try.prog 97 = some 4 := by kernel_rfl
theorem tagg97 : tagg Try.prog 97 = some true := by kernel_rfl
theorem tarr97 : tarr Try.prog 97 = none := by kernel_rfl
theorem tbytes97 : tbytes Try.prog 97 = some 32 := by kernel_rfl
theorem tzero97 : tzero Try.prog 97 = some [.int .u8 0, .int .i64 0, .int .i64 0, .int .i64 0] := by kernel_rfl
theorem tzv97 : tzv Try.prog 97 = some (.agg [.int .u8 0, .int .i64 0, .int .i64 0, .int .i64 0]) := by kernel_rfl
theorem tplaces97 : tplaces Try.prog 97 = some [(0, 1), (1, 3)] := by kernel_rfl
theorem tfld97_0 : tfld Try.prog 97 0 = some (0, 95) := by kernel_rfl
theorem tfld97_1 : tfld Try.prog 97 1 = some (1, 96) := by kernel_rfl
theorem tsz98 : tsz Try.prog 98 = some 4 := by kernel_rfl
theorem tagg98 : tagg Try.prog 98 = some true := by kernel_rfl
theorem tarr98 : tarr Try.prog 98 = none := by kernel_rfl
theorem tbytes98 : tbytes Try.prog 98 = some 32 := by kernel_rfl
theorem tzero98 : tzero Try.prog 98 = some [.int .u8 0, .int .i64 0, .int .i64 0, .int .i64 0] := by kernel_rfl
theorem tzv98 : tzv Try.prog 98 = some (.agg [.int .u8 0, .int .i64 0, .int .i64 0, .int .i64 0]) := by kernel_rfl
theorem tplaces98 : tplaces Try.prog 98 = some [(0, 1), (1, 3)] := by kernel_rfl
theorem tfld98_0 : tfld Try.prog 98 0 = some (0, 95) := by kernel_rfl
theorem tfld98_1 : tfld Try.prog 98 1 = some (1, 96) := by kernel_rfl
theorem tsz99 : tsz Try.prog 99 = some 1 := by kernel_rfl
theorem tagg99 : tagg Try.prog 99 = some false := by kernel_rfl
theorem tbytes99 : tbytes Try.prog 99 = some 8 := by kernel_rfl
theorem tzero99 : tzero Try.prog 99 = some [.nilf] := by kernel_rfl
theorem tzv99 : tzv Try.prog 99 = some (.nilf) := by kernel_rfl
theorem tsz100 : tsz Try.prog 100 = some 1 := by kernel_rfl
theorem tagg100 : tagg Try.prog 100 = some false := by kernel_rfl
theorem tbytes100 : tbytes Try.prog 100 = some 8 := by kernel_rfl
theorem tzero100 : tzero Try.prog 100 = some [.nilf] := by kernel_rfl
theorem tzv100 : tzv Try.prog 100 = some (.nilf) := by kernel_rfl
theorem tsz101 : tsz Try.prog 101 = some 1 := by kernel_rfl
theorem tagg101 : tagg Try.prog 101 = some false := by kernel_rfl
theorem tbytes101 : tbytes Try.prog 101 = some 8 := by kernel_rfl
theorem tzero101 : tzero Try.prog 101 = some [.nilf] := by kernel_rfl
theorem tzv101 : tzv Try.prog 101 = some (.nilf) := by kernel_rfl
theorem tsz102 : tsz Try.prog 102 = some 1 := by kernel_rfl
theorem tagg102 : tagg Try.prog 102 = some false := by kernel_rfl
theorem tbytes102 : tbytes Try.prog 102 = some 8 := by kernel_rfl
theorem tzero102 : tzero Try.prog 102 = some [.nilf] := by kernel_rfl
theorem tzv102 : tzv Try.prog 102 = some (.nilf) := by kernel_rfl
theorem tsz103 : tsz Try.prog 103 = some 1 := by kernel_rfl
theorem tagg103 : tagg Try.prog 103 = some false := by kernel_rfl
theorem tbytes103 : tbytes Try.prog 103 = some 8 := by kernel_rfl
theorem tzero103 : tzero Try.prog 103 = some [.nilf] := by kernel_rfl
theorem tzv103 : tzv Try.prog 103 = some (.nilf) := by kernel_rfl
theorem tsz104 : tsz Try.prog 104 = some 1 := by kernel_rfl
theorem tagg104 : tagg Try.prog 104 = some false := by kernel_rfl
theorem tbytes104 : tbytes Try.prog 104 = some 8 := by kernel_rfl
theorem tzero104 : tzero Try.prog 104 = some [.nilf] := by kernel_rfl
theorem tzv104 : tzv Try.prog 104 = some (.nilf) := by kernel_rfl
theorem tsz105 : tsz Try.prog 105 = some 6 := by kernel_rfl
theorem tagg105 : tagg Try.prog 105 = some true := by kernel_rfl
theorem tarr105 : tarr Try.prog 105 = none := by kernel_rfl
theorem tbytes105 : tbytes Try.prog 105 = some 48 := by kernel_rfl
theorem tzero105 : tzero Try.prog 105 = some [.int .i64 0, .int .u8 0, .int .i64 0, .int .i64 0, .int .i64 0, .int .i64 0] := by kernel_rfl
theorem tzv105 : tzv Try.prog 105 = some (.agg [.int .i64 0, .int .u8 0, .int .i64 0, .int .i64 0, .int .i64 0, .int .i64 0]) := by kernel_rfl
theorem tplaces105 : tplaces Try.prog 105 = some [(0, 1), (1, 1), (2, 2), (4, 1), (5, 1)] := by kernel_rfl
theorem tfld105_0 : tfld Try.prog 105 0 = some (0, 3) := by kernel_rfl
theorem tfld105_1 : tfld Try.prog 105 1 = some (1, 5) := by kernel_rfl
theorem tfld105_2 : tfld Try.prog 105 2 = some (2, 38) := by kernel_rfl
theorem tfld105_3 : tfld Try.prog 105 3 = some (4, 3) := by kernel_rfl
theorem tfld105_4 : tfld Try.prog 105 4 = some (5, 3) := by kernel_rfl
theorem tsz106 : tsz Try.prog 106 = some 6 := by kernel_rfl
theorem tagg106 : tagg Try.prog 106 = some true := by kernel_rfl
theorem tarr106 : tarr Try.prog 106 = none := by kernel_rfl
theorem tbytes106 : tbytes Try.prog 106 = some 48 := by kernel_rfl
theorem tzero106 : tzero Try.prog 106 = some [.int .i64 0, .int .u8 0, .int .i64 0, .int .i64 0, .int .i64 0, .int .i64 0] := by kernel_rfl
theorem tzv106 : tzv Try.prog 106 = some (.agg [.int .i64 0, .int .u8 0, .int .i64 0, .int .i64 0, .int .i64 0, .int .i64 0]) := by kernel_rfl
theorem tplaces106 : tplaces Try.prog 106 = some [(0, 1), (1, 1), (2, 2), (4, 1), (5, 1)] := by kernel_rfl
theorem tfld106_0 : tfld Try.prog 106 0 = some (0, 3) := by kernel_rfl
theorem tfld106_1 : tfld Try.prog 106 1 = some (1, 5) := by kernel_rfl
theorem tfld106_2 : tfld Try.prog 106 2 = some (2, 38) := by kernel_rfl
theorem tfld106_3 : tfld Try.prog 106 3 = some (4, 3) := by kernel_rfl
theorem tfld106_4 : tfld Try.prog 106 4 = some (5, 3) := by kernel_rfl
theorem tsz107 : tsz Try.prog 107 = some 1 := by kernel_rfl
theorem tagg107 : tagg Try.prog 107 = some false := by kernel_rfl
theorem tbytes107 : tbytes Try.prog 107 = some 8 := by kernel_rfl
theorem tzero107 : tzero Try.prog 107 = some [.nilf] := by kernel_rfl
theorem tzv107 : tzv Try.prog 107 = some (.nilf) := by kernel_rfl
theorem tsz108 : tsz Try.prog 108 = some 1 := by kernel_rfl
theorem tagg108 : tagg Try.prog 108 = some false := by kernel_rfl
theorem tbytes108 : tbytes Try.prog 108 = some 8 := by kernel_rfl
theorem tzero108 : tzero Try.prog 108 = some [.nilf] := by kernel_rfl
theorem tzv108 : tzv Try.prog 108 = some (.nilf) := by kernel_rfl
theorem tsz109 : tsz Try.prog 109 = some 1 := by kernel_rfl
theorem tagg109 : tagg Try.prog 109 = some false := by kernel_rfl
theorem tbytes109 : tbytes Try.prog 109 = some 0 := by kernel_rfl
theorem tsz110 : tsz Try.prog 110 = some 1 := by kernel_rfl
theorem tagg110 : tagg Try.prog 110 = some false := by kernel_rfl
theorem tbytes110 : tbytes Try.prog 110 = some 8 := by kernel_rfl
theorem tzero110 : tzero Try.prog 110 = some [.nilf] := by kernel_rfl
theorem tzv110 : tzv Try.prog 110 = some (.nilf) := by kernel_rfl
theorem tsz111 : tsz Try.prog 111 = some 1 := by kernel_rfl
theorem tagg111 : tagg Try.prog 111 = some false := by kernel_rfl
theorem tbytes111 : tbytes Try.prog 111 = some 8 := by kernel_rfl
theorem tzero111 : tzero Try.prog 111 = some [.nilf] := by kernel_rfl
theorem tzv111 : tzv Try.prog 111 = some (.nilf) := by kernel_rfl
theorem tsz112 : tsz Try.prog 112 = some 1 := by kernel_rfl
theorem tagg112 : tagg Try.prog 112 = some false := by kernel_rfl
theorem tbytes112 : tbytes Try.prog 112 = some 8 := by kernel_rfl
theorem tzero112 : tzero Try.prog 112 = some [.nilf] := by kernel_rfl
theorem tzv112 : tzv Try.prog 112 = some (.nilf) := by kernel_rfl
theorem tsz113 : tsz Try.prog 113 = some 1 := by kernel_rfl
theorem tagg113 : tagg Try.prog 113 = some false := by kernel_rfl
theorem tbytes113 : tbytes Try.prog 113 = some 8 := by kernel_rfl
theorem tzero113 : tzero Try.prog 113 = some [.nilf] := by kernel_rfl
theorem tzv113 : tzv Try.prog 113 = some (.nilf) := by kernel_rfl
theorem tsz114 : tsz Try.prog 114 = some 1 := by kernel_rfl
theorem tagg114 : tagg Try.prog 114 = some false := by kernel_rfl
theorem tbytes114 : tbytes Try.prog 114 = some 8 := by kernel_rfl
theorem tzero114 : tzero Try.prog 114 = some [.nilf] := by kernel_rfl
theorem tzv114 : tzv Try.prog 114 = some (.nilf) := by kernel_rfl
theorem tsz115 : tsz Try.prog 115 = some 1 := by kernel_rfl
theorem tagg115 : tagg Try.prog 115 = some false := by kernel_rfl
theorem tbytes115 : tbytes Try.prog 115 = some 8 := by kernel_rfl
theorem tzero115 : tzero Try.prog 115 = some [.nilf] := by kernel_rfl
theorem tzv115 : tzv Try.prog 115 = some (.nilf) := by kernel_rfl
theorem tsz116 : tsz Try.prog 116 = some 1 := by kernel_rfl
theorem tagg116 : tagg Try.prog 116 = some false := by kernel_rfl
theorem tbytes116 : tbytes Try.prog 116 = some 8 := by kernel_rfl
theorem tzero116 : tzero Try.prog 116 = some [.nilf] := by kernel_rfl
theorem tzv116 : tzv Try.prog 116 = some (.nilf) := by kernel_rfl
theorem tsz117 : tsz Try.prog 117 = some 1 := by kernel_rfl
theorem tagg117 : tagg Try.prog 117 = some false := by kernel_rfl
theorem tmap117 : tmap Try.prog 117 = some (3, 4) := by kernel_rfl
theorem tbytes117 : tbytes Try.prog 117 = some 8 := by kernel_rfl
theorem tzero117 : tzero Try.prog 117 = some [.nilm] := by kernel_rfl
theorem tzv117 : tzv Try.prog 117 = some (.nilm) := by kernel_rfl
theorem tsz118 : tsz Try.prog 118 = some 1 := by kernel_rfl
theorem tagg118 : tagg Try.prog 118 = some false := by kernel_rfl
theorem tbytes118 : tbytes Try.prog 118 = some 8 := by kernel_rfl
theorem tzero118 : tzero Try.prog 118 = some [.nilf] := by kernel_rfl
theorem tzv118 : tzv Try.prog 118 = some (.nilf) := by kernel_rfl
theorem tsz119 : tsz Try.prog 119 = some 1 := by kernel_rfl
theorem tagg119 : tagg Try.prog 119 = some false := by kernel_rfl
theorem tbytes119 : tbytes Try.prog 119 = some 8 := by kernel_rfl
theorem tzero119 : tzero Try.prog 119 = some [.nilf] := by kernel_rfl
theorem tzv119 : tzv Try.prog 119 = some (.nilf) := by kernel_rfl
theorem tsz120 : tsz Try.prog 120 = some 1 := by kernel_rfl
theorem tagg120 : tagg Try.prog 120 = some false := by kernel_rfl
theorem tbytes120 : tbytes Try.prog 120 = some 8 := by kernel_rfl
theorem tzero120 : tzero Try.prog 120 = some [.nilf] := by kernel_rfl
theorem tzv120 : tzv Try.prog 120 = some (.nilf) := by kernel_rfl
theorem tsz121 : tsz Try.prog 121 = some 1 := by kernel_rfl
theorem tagg121 : tagg Try.prog 121 = some false := by kernel_rfl
theorem tbytes121 : tbytes Try.prog 121 = some 8 := by kernel_rfl
theorem tzero121 : tzero Try.prog 121 = some [.nilf] := by kernel_rfl
theorem tzv121 : tzv Try.prog 121 = some (.nilf) := by kernel_rfl
theorem tsz122 : tsz Try.prog 122 = some 1 := by kernel_rfl
theorem tagg122 : tagg Try.prog 122 = some false := by kernel_rfl
theorem tbytes122 : tbytes Try.prog 122 = some 8 := by kernel_rfl
theorem tzero122 : tzero Try.prog 122 = some [.nilf] := by kernel_rfl
theorem tzv122 : tzv Try.prog 122 = some (.nilf) := by kernel_rfl
theorem tsz123 : tsz Try.prog 123 = some 1 := by kernel_rfl
theorem tagg123 : tagg Try.prog 123 = some false := by kernel_rfl
theorem tmap123 : tmap Try.prog 123 = some (98, 3) := by kernel_rfl
theorem tbytes123 : tbytes Try.prog 123 = some 8 := by kernel_rfl
theorem tzero123 : tzero Try.prog 123 = some [.nilm] := by kernel_rfl
theorem tzv123 : tzv Try.prog 123 = some (.nilm) := by kernel_rfl
theorem tsz124 : tsz Try.prog 124 = some 7 := by kernel_rfl
theorem tagg124 : tagg Try.prog 124 = some true := by kernel_rfl
theorem tarr124 : tarr Try.prog 124 = none := by kernel_rfl
theorem tbytes124 : tbytes Try.prog 124 = some 104 := by kernel_rfl
theorem tzero124 : tzero Try.prog 124 = some [.nils, .nils, .int .i64 0, .int .i64 0, .int .i64 0, .nils, .nilm] := by kernel_rfl
theorem tzv124 : tzv Try.prog 124 = some (.agg [.nils, .nils, .int .i64 0, .int .i64 0, .int .i64 0, .nils, .nilm]) := by kernel_rfl
theorem tplaces124 : tplaces Try.prog 124 = some [(0, 5), (5, 1), (6, 1)] := by kernel_rfl
theorem tfld124_0 : tfld Try.prog 124 0 = some (0, 40) := by kernel_rfl
theorem tfld124_1 : tfld Try.prog 124 1 = some (5, 46) := by kernel_rfl
theorem tfld124_2 : tfld Try.prog 124 2 = some (6, 123) := by kernel_rfl
theorem tsz125 : tsz Try.prog 125 = some 7 := by kernel_rfl
theorem tagg125 : tagg Try.prog 125 = some true := by kernel_rfl
theorem tarr125 : tarr Try.prog 125 = none := by kernel_rfl
theorem tbytes125 : tbytes Try.prog 125 = some 104 := by kernel_rfl
theorem tzero125 : tzero Try.prog 125 = some [.nils, .nils, .int .i64 0, .int .i64 0, .int .i64 0, .nils, .nilm] := by kernel_rfl
theorem tzv125 : tzv Try.prog 125 = some (.agg [.nils, .nils, .int .i64 0, .int .i64 0, .int .i64 0, .nils, .nilm]) := by kernel_rfl
theorem tplaces125 : tplaces Try.prog 125 = some [(0, 5), (5, 1), (6, 1)] := by kernel_rfl
theorem tfld125_0 : tfld Try.prog 125 0 = some (0, 40) := by kernel_rfl
theorem tfld125_1 : tfld Try.prog 125 1 = some (5, 46) := by kernel_rfl
theorem tfld125_2 : tfld Try.prog 125 2 = some (6, 123) := by kernel_rfl
theorem tsz126 : tsz Try.prog 126 = some 1 := by kernel_rfl
theorem tagg126 : tagg Try.prog 126 = some false := by kernel_rfl
theorem tbytes126 : tbytes Try.prog 126 = some 0 := by kernel_rfl
theorem tsz127 : tsz Try.prog 127 = some 1 := by kernel_rfl
theorem tagg127 : tagg Try.prog 127 = some false := by kernel_rfl
theorem tbytes127 : tbytes Try.prog 127 = some 8 := by kernel_rfl
theorem tzero127 : tzero Try.prog 127 = some [.nilf] := by kernel_rfl
theorem tzv127 : tzv Try.prog 127 = some (.nilf) := by kernel_rfl
theorem tsz128 : tsz Try.prog 128 = some 1 := by kernel_rfl
theorem tagg128 : tagg Try.prog 128 = some false := by kernel_rfl
theorem tbytes128 : tbytes Try.prog 128 = some 8 := by kernel_rfl
theorem tzero128 : tzero Try.prog 128 = some [.nilf] := by kernel_rfl
theorem tzv128 : tzv Try.prog 128 = some (.nilf) := by kernel_rfl
theorem tsz129 : tsz Try.prog 129 = some 1 := by kernel_rfl
theorem tagg129 : tagg Try.prog 129 = some false := by kernel_rfl
theorem tbytes129 : tbytes Try.prog 129 = some 8 := by kernel_rfl
theorem tzero129 : tzero Try.prog 129 = some [.nilf] := by kernel_rfl
theorem tzv129 : tzv Try.prog 129 = some (.nilf) := by kernel_rfl
theorem tsz130 : tsz Try.prog 130 = some 1 := by kernel_rfl
theorem tagg130 : tagg Try.prog 130 = some false := by kernel_rfl
theorem tbytes130 : tbytes Try.prog 130 = some 8 := by kernel_rfl
theorem tzero130 : tzero Try.prog 130 = some [.nilf] := by kernel_rfl
theorem tzv130 : tzv Try.prog 130 = some (.nilf) := by kernel_rfl
theorem tsz131 : tsz Try.prog 131 = some 1 := by kernel_rfl
theorem tagg131 : tagg Try.prog 131 = some false := by kernel_rfl
theorem tslice131 : tslice Try.prog 131 = some 4 := by kernel_rfl
theorem tbytes131 : tbytes Try.prog 131 = some 24 := by kernel_rfl
theorem tzero131 : tzero Try.prog 131 = some [.nils] := by kernel_rfl
theorem tzv131 : tzv Try.prog 131 = some (.nils) := by kernel_rfl
theorem tsz132 : tsz Try.prog 132 = some 1 := by kernel_rfl
theorem tagg132 : tagg Try.prog 132 = some false := by kernel_rfl
theorem tbytes132 : tbytes Try.prog 132 = some 8 := by kernel_rfl
theorem tzero132 : tzero Try.prog 132 = some [.nilf] := by kernel_rfl
theorem tzv132 : tzv Try.prog 132 = some (.nilf) := by kernel_rfl
theorem tsz133 : tsz Try.prog 133 = some 1 := by kernel_rfl
theorem tagg133 : tagg Try.prog 133 = some false := by kernel_rfl
theorem tbytes133 : tbytes Try.prog 133 = some 8 := by kernel_rfl
theorem tzero133 : tzero Try.prog 133 = some [.nilf] := by kernel_rfl
theorem tzv133 : tzv Try.prog 133 = some (.nilf) := by kernel_rfl
theorem tsz134 : tsz Try.prog 134 = some 1 := by kernel_rfl
theorem tagg134 : tagg Try.prog 134 = some false := by kernel_rfl
theorem tbytes134 : tbytes Try.prog 134 = some 8 := by kernel_rfl
theorem tzero134 : tzero Try.prog 134 = some [.nilf] := by kernel_rfl
theorem tzv134 : tzv Try.prog 134 = some (.nilf) := by kernel_rfl
theorem tsz135 : tsz Try.prog 135 = some 1 := by kernel_rfl
theorem tagg135 : tagg Try.prog 135 = some false := by kernel_rfl
theorem tbytes135 : tbytes Try.prog 135 = some 8 := by kernel_rfl
theorem tzero135 : tzero Try.prog 135 = some [.nilf] := by kernel_rfl
theorem tzv135 : tzv Try.prog 135 = some (.nilf) := by kernel_rfl
theorem tsz136 : tsz Try.prog 136 = some 1 := by kernel_rfl
theorem tagg136 : tagg Try.prog 136 = some false := by kernel_rfl
theorem tbytes136 : tbytes Try.prog 136 = some 8 := by kernel_rfl
theorem tzero136 : tzero Try.prog 136 = some [.nilf] := by kernel_rfl
theorem tzv136 : tzv Try.prog 136 = some (.nilf) := by kernel_rfl
theorem tsz137 : tsz Try.prog 137 = some 1 := by kernel_rfl
theorem tagg137 : tagg Try.prog 137 = some false := by kernel_rfl
theorem tbytes137 : tbytes Try.prog 137 = some 8 := by kernel_rfl
theorem tzero137 : tzero Try.prog 137 = some [.nilf] := by kernel_rfl
theorem tzv137 : tzv Try.prog 137 = some (.nilf) := by kernel_rfl
theorem tsz138 : tsz Try.prog 138 = some 1 := by kernel_rfl
theorem tagg138 : tagg Try.prog 138 = some false := by kernel_rfl
theorem tbytes138 : tbytes Try.prog 138 = some 8 := by kernel_rfl
theorem tzero138 : tzero Try.prog 138 = some [.nilf] := by kernel_rfl
theorem tzv138 : tzv Try.prog 138 = some (.nilf) := by kernel_rfl
theorem tsz139 : tsz Try.prog 139 = some 1 := by kernel_rfl
theorem tagg139 : tagg Try.prog 139 = some false := by kernel_rfl
theorem tbytes139 : tbytes Try.prog 139 = some 8 := by kernel_rfl
theorem tzero139 : tzero Try.prog 139 = some [.nilf] := by kernel_rfl
theorem tzv139 : tzv Try.prog 139 = some (.nilf) := by kernel_rfl
theorem tsz140 : tsz Try.prog 140 = some 1 := by kernel_rfl
theorem tagg140 : tagg Try.prog 140 = some false := by kernel_rfl
theorem tint140 : tint Try.prog 140 = some .u64 := by kernel_rfl
theorem tund140 : (Try.prog.underlying 140).isSome = true := by kernel_rfl
theorem tbytes140 : tbytes Try.prog 140 = some 8 := by kernel_rfl
theorem tzero140 : tzero Try.prog 140 = some [.int .u64 0] := by kernel_rfl
theorem tzv140 : tzv Try.prog 140 = some (.int .u64 0) := by kernel_rfl
attribute [go_sem] tsz3 tagg3 tint3 tund3 tbytes3 tzero3 tzv3 tsz4 tagg4 tbytes4 tzero4 tzv4 tsz5 tagg5 tint5 tund5 tbytes5 tzero5 tzv5 tsz6 tagg6 tint6 tund6 tbytes6 tzero6 tzv6 tsz7 tagg7 tarr7 tbytes7 tzero7 tzv7 tplaces7 tfld7_0 tfld7_1 tfld7_2 tfld7_3 tsz8 tagg8 tarr8 tbytes8 tzero8 tzv8 tplaces8 tfld8_0 tfld8_1 tfld8_2 tfld8_3 tsz9 tagg9 tbytes9 tzero9 tzv9 tsz10 tagg10 tbytes10 tzero10 tzv10 tsz11 tagg11 tbytes11 tzero11 tzv11 tsz12 tagg12 tint12 tund12 tbytes12 tzero12 tzv12 tsz13 tagg13 tarr13 tbytes13 tzero13 tzv13 tplaces13 tfld13_0 tfld13_1 tsz14 tagg14 tarr14 tbytes14 tzero14 tzv14 tplaces14 tfld14_0 tfld14_1 tsz15 tagg15 tbytes15 tzero15 tzv15 tsz16 tagg16 tbytes16 tzero16 tzv16 tsz17 tagg17 tbytes17 tzero17 tzv17 tsz18 tagg18 tarr18 tbytes18 tzero18 tzv18 tplaces18 tfld18_0 tsz19 tagg19 tarr19 tbytes19 tzero19 tzv19 tplaces19 tfld19_0 tsz20 tagg20 tbytes20 tsz21 tagg21 tint21 tund21 tbytes21 tzero21 tzv21 tsz22 tagg22 tslice22 tbytes22 tzero22 tzv22 tsz23 tagg23 tslice23 tbytes23 tzero23 tzv23 tsz24 tagg24 tarr24 tbytes24 tzero24 tzv24 tplaces24 tfld24_0 tfld24_1 tsz25 tagg25 tarr25 tbytes25 tzero25 tzv25 tplaces25 tfld25_0 tfld25_1 tsz26 tagg26 tarr26 tbytes26 tzero26 tzv26 tplaces26 tfld26_0 tfld26_1 tfld26_2 tfld26_3 tsz27 tagg27 tarr27 tbytes27 tzero27 tzv27 tplaces27 tfld27_0 tfld27_1 tfld27_2 tfld27_3 tsz28 tagg28 tslice28 tbytes28 tzero28 tzv28 tsz29 tagg29 tbytes29 tzero29 tzv29 tsz30 tagg30 tbytes30 tzero30 tzv30 tsz31 tagg31 tbytes31 tzero31 tzv31 tsz32 tagg32 tslice32 tbytes32 tzero32 tzv32 tsz33 tagg33 tint33 tund33 tbytes33 tzero33 tzv33 tsz34 tagg34 tbytes34 tsz35 tagg35 tbytes35 tzero35 tzv35 tsz36 tagg36 tslice36 tbytes36 tzero36 tzv36 tsz37 tagg37 tslice37 tbytes37 tzero37 tzv37 tsz38 tagg38 tarr38 tbytes38 tzero38 tzv38 tplaces38 tfld38_0 tfld38_1 tsz39 tagg39 tarr39 tbytes39 tzero39 tzv39 tplaces39 tfld39_0 tfld39_1 tfld39_2 tfld39_3 tsz40 tagg40 tarr40 tbytes40 tzero40 tzv40 tplaces40 tfld40_0 tfld40_1 tfld40_2 tfld40_3 tsz41 tagg41 tbytes41 tzero41 tzv41 tsz42 tagg42 tbytes42 tzero42 tzv42 tsz43 tagg43 tbytes43 tzero43 tzv43 tsz44 tagg44 tarr44 tbytes44 tzero44 tzv44 tplaces44 tfld44_0 tfld44_1 tfld44_2 tfld44_3 tfld44_4 tsz45 tagg45 tarr45 tbytes45 tzero45 tzv45 tplaces45 tfld45_0 tfld45_1 tfld45_2 tfld45_3 tfld45_4 tsz46 tagg46 tslice46 tbytes46 tzero46 tzv46 tsz47 tagg47 tarr47 tbytes47 tzero47 tzv47 tplaces47 tfld47_0 tfld47_1 tfld47_2 tsz48 tagg48 tarr48 tbytes48 tzero48 tzv48 tplaces48 tfld48_0 tfld48_1 tfld48_2 tsz49 tagg49 tarr49 tbytes49 tzero49 tzv49 tplaces49 tfld49_0 tfld49_1 tfld49_2 tsz50 tagg50 tbytes50 tzero50 tzv50 tsz51 tagg51 tbytes51 tzero51 tzv51 tsz52 tagg52 tint52 tund52 tbytes52 tzero52 tzv52 tsz53 tagg53 tbytes53 tzero53 tzv53 tsz54 tagg54 tbytes54 tzero54 tzv54 tsz55 tagg55 tarr55 tbytes55 tzero55 tzv55 tplaces55 tfld55_0 tfld55_1 tfld55_2 tsz56 tagg56 tarr56 tbytes56 tzero56 tzv56 tplaces56 tfld56_0 tfld56_1 tfld56_2 tsz57 tagg57 tbytes57 tzero57 tzv57 tsz58 tagg58 tbytes58 tsz59 tagg59 tbytes59 tzero59 tzv59 tsz60 tagg60 tbytes60 tzero60 tzv60 tsz61 tagg61 tint61 tund61 tbytes61 tzero61 tzv61 tsz62 tagg62 tbytes62 tsz63 tagg63 tbytes63 tzero63 tzv63 tsz64 tagg64 tbytes64 tzero64 tzv64 tsz65 tagg65 tbytes65 tzero65 tzv65 tsz66 tagg66 tbytes66 tzero66 tzv66 tsz67 tagg67 tbytes67 tzero67 tzv67 tsz68 tagg68 tbytes68 tzero68 tzv68 tsz69 tagg69 tbytes69 tzero69 tzv69 tsz70 tagg70 tbytes70 tzero70 tzv70 tsz71 tagg71 tbytes71 tzero71 tzv71 tsz72 tagg72 tbytes72 tzero72 tzv72 tsz73 tagg73 tbytes73 tzero73 tzv73 tsz74 tagg74 tbytes74 tzero74 tzv74 tsz75 tagg75 tbytes75 tzero75 tzv75 tsz76 tagg76 tslice76 tbytes76 tzero76 tzv76 tsz77 tagg77 tbytes77 tzero77 tzv77 tsz78 tagg78 tbytes78 tzero78 tzv78 tsz79 tagg79 tbytes79 tsz80 tagg80 tbytes80 tzero80 tzv80 tsz81 tagg81 tbytes81 tzero81 tzv81 tsz82 tagg82 tbytes82 tzero82 tzv82 tsz83 tagg83 tbytes83 tzero83 tzv83 tsz84 tagg84 tbytes84 tzero84 tzv84 tsz85 tagg85 tbytes85 tzero85 tzv85 tsz86 tagg86 tbytes86 tzero86 tzv86 tsz87 tagg87 tbytes87 tzero87 tzv87 tsz88 tagg88 tbytes88 tzero88 tzv88 tsz89 tagg89 tbytes89 tzero89 tzv89 tsz90 tagg90 tbytes90 tzero90 tzv90 tsz91 tagg91 tarr91 tbytes91 tzero91 tzv91 tplaces91 tfld91_0 tfld91_1 tfld91_2 tsz92 tagg92 tbytes92 tzero92 tzv92 tsz93 tagg93 tbytes93 tzero93 tzv93 tsz94 tagg94 tbytes94 tzero94 tzv94 tsz95 tagg95 tint95 tund95 tbytes95 tzero95 tzv95 tsz96 tagg96 tslice96 tarr96 tbytes96 tzero96 tzv96 tsz97 tagg97 tarr97 tbytes97 tzero97 tzv97 tplaces97 tfld97_0 tfld97_1 tsz98 tagg98 tarr98 tbytes98 tzero98 tzv98 tplaces98 tfld98_0 tfld98_1 tsz99 tagg99 tbytes99 tzero99 tzv99 tsz100 tagg100 tbytes100 tzero100 tzv100 tsz101 tagg101 tbytes101 tzero101 tzv101 tsz102 tagg102 tbytes102 tzero102 tzv102 tsz103 tagg103 tbytes103 tzero103 tzv103 tsz104 tagg104 tbytes104 tzero104 tzv104 tsz105 tagg105 tarr105 tbytes105 tzero105 tzv105 tplaces105 tfld105_0 tfld105_1 tfld105_2 tfld105_3 tfld105_4 tsz106 tagg106 tarr106 tbytes106 tzero106 tzv106 tplaces106 tfld106_0 tfld106_1 tfld106_2 tfld106_3 tfld106_4 tsz107 tagg107 tbytes107 tzero107 tzv107 tsz108 tagg108 tbytes108 tzero108 tzv108 tsz109 tagg109 tbytes109 tsz110 tagg110 tbytes110 tzero110 tzv110 tsz111 tagg111 tbytes111 tzero111 tzv111 tsz112 tagg112 tbytes112 tzero112 tzv112 tsz113 tagg113 tbytes113 tzero113 tzv113 tsz114 tagg114 tbytes114 tzero114 tzv114 tsz115 tagg115 tbytes115 tzero115 tzv115 tsz116 tagg116 tbytes116 tzero116 tzv116 tsz117 tagg117 tmap117 tbytes117 tzero117 tzv117 tsz118 tagg118 tbytes118 tzero118 tzv118 tsz119 tagg119 tbytes119 tzero119 tzv119 tsz120 tagg120 tbytes120 tzero120 tzv120 tsz121 tagg121 tbytes121 tzero121 tzv121 tsz122 tagg122 tbytes122 tzero122 tzv122 tsz123 tagg123 tmap123 tbytes123 tzero123 tzv123 tsz124 tagg124 tarr124 tbytes124 tzero124 tzv124 tplaces124 tfld124_0 tfld124_1 tfld124_2 tsz125 tagg125 tarr125 tbytes125 tzero125 tzv125 tplaces125 tfld125_0 tfld125_1 tfld125_2 tsz126 tagg126 tbytes126 tsz127 tagg127 tbytes127 tzero127 tzv127 tsz128 tagg128 tbytes128 tzero128 tzv128 tsz129 tagg129 tbytes129 tzero129 tzv129 tsz130 tagg130 tbytes130 tzero130 tzv130 tsz131 tagg131 tslice131 tbytes131 tzero131 tzv131 tsz132 tagg132 tbytes132 tzero132 tzv132 tsz133 tagg133 tbytes133 tzero133 tzv133 tsz134 tagg134 tbytes134 tzero134 tzv134 tsz135 tagg135 tbytes135 tzero135 tzv135 tsz136 tagg136 tbytes136 tzero136 tzv136 tsz137 tagg137 tbytes137 tzero137 tzv137 tsz138 tagg138 tbytes138 tzero138 tzv138 tsz139 tagg139 tbytes139 tzero139 tzv139 tsz140 tagg140 tint140 tund140 tbytes140 tzero140 tzv140
end Go.Am

/- MADE BY A PROGRAM of ours (wip/tools/Tab): what the program's table says of more of the types that the walks meet. -/
namespace Go.Am
open Go.RowKit Go.Proofs
theorem tsz141 : tsz Try.prog 141 = some 1 := by kernel_rfl
theorem tagg141 : tagg Try.prog 141 = some false := by kernel_rfl
theorem tbytes141 : tbytes Try.prog 141 = some 8 := by kernel_rfl
theorem tzero141 : tzero Try.prog 141 = some [.nilf] := by kernel_rfl
theorem tzv141 : tzv Try.prog 141 = some (.nilf) := by kernel_rfl
theorem tsz142 : tsz Try.prog 142 = some 1 := by kernel_rfl
theorem tagg142 : tagg Try.prog 142 = some false := by kernel_rfl
theorem tbytes142 : tbytes Try.prog 142 = some 8 := by kernel_rfl
theorem tzero142 : tzero Try.prog 142 = some [.nilf] := by kernel_rfl
theorem tzv142 : tzv Try.prog 142 = some (.nilf) := by kernel_rfl
theorem tsz143 : tsz Try.prog 143 = some 1 := by kernel_rfl
theorem tagg143 : tagg Try.prog 143 = some true := by kernel_rfl
theorem tarr143 : tarr Try.prog 143 = none := by kernel_rfl
theorem tbytes143 : tbytes Try.prog 143 = some 8 := by kernel_rfl
theorem tzero143 : tzero Try.prog 143 = some [.nilf] := by kernel_rfl
theorem tzv143 : tzv Try.prog 143 = some (.agg [.nilf]) := by kernel_rfl
theorem tplaces143 : tplaces Try.prog 143 = some [(0, 1)] := by kernel_rfl
theorem tfld143_0 : tfld Try.prog 143 0 = some (0, 142) := by kernel_rfl
theorem tsz144 : tsz Try.prog 144 = some 1 := by kernel_rfl
theorem tagg144 : tagg Try.prog 144 = some true := by kernel_rfl
theorem tarr144 : tarr Try.prog 144 = none := by kernel_rfl
theorem tbytes144 : tbytes Try.prog 144 = some 8 := by kernel_rfl
theorem tzero144 : tzero Try.prog 144 = some [.nilf] := by kernel_rfl
theorem tzv144 : tzv Try.prog 144 = some (.agg [.nilf]) := by kernel_rfl
theorem tplaces144 : tplaces Try.prog 144 = some [(0, 1)] := by kernel_rfl
theorem tfld144_0 : tfld Try.prog 144 0 = some (0, 142) := by kernel_rfl
theorem tsz145 : tsz Try.prog 145 = some 1 := by kernel_rfl
theorem tagg145 : tagg Try.prog 145 = some false := by kernel_rfl
theorem tslice145 : tslice Try.prog 145 = some 144 := by kernel_rfl
theorem tbytes145 : tbytes Try.prog 145 = some 24 := by kernel_rfl
theorem tzero145 : tzero Try.prog 145 = some [.nils] := by kernel_rfl
theorem tzv145 : tzv Try.prog 145 = some (.nils) := by kernel_rfl
theorem tsz146 : tsz Try.prog 146 = some 1 := by kernel_rfl
theorem tagg146 : tagg Try.prog 146 = some false := by kernel_rfl
theorem tbytes146 : tbytes Try.prog 146 = some 8 := by kernel_rfl
theorem tzero146 : tzero Try.prog 146 = some [.nilf] := by kernel_rfl
theorem tzv146 : tzv Try.prog 146 = some (.nilf) := by kernel_rfl
theorem tsz147 : tsz Try.prog 147 = some 1 := by kernel_rfl
theorem tagg147 : tagg Try.prog 147 = some false := by kernel_rfl
theorem tbytes147 : tbytes Try.prog 147 = some 8 := by kernel_rfl
theorem tzero147 : tzero Try.prog 147 = some [.nilf] := by kernel_rfl
theorem tzv147 : tzv Try.prog 147 = some (.nilf) := by kernel_rfl
theorem tsz148 : tsz Try.prog 148 = some 1 := by kernel_rfl
theorem tagg148 : tagg Try.prog 148 = some false := by kernel_rfl
theorem tbytes148 : tbytes Try.prog 148 = some 8 := by kernel_rfl
theorem tzero148 : tzero Try.prog 148 = some [.nilf] := by kernel_rfl
theorem tzv148 : tzv Try.prog 148 = some (.nilf) := by kernel_rfl
theorem tsz149 : tsz Try.prog 149 = some 1 := by kernel_rfl
theorem tagg149 : tagg Try.prog 149 = some false := by kernel_rfl
theorem tbytes149 : tbytes Try.prog 149 = some 8 := by kernel_rfl
theorem tzero149 : tzero Try.prog 149 = some [.nilf] := by kernel_rfl
theorem tzv149 : tzv Try.prog 149 = some (.nilf) := by kernel_rfl
theorem tsz150 : tsz Try.prog 150 = some 1 := by kernel_rfl
theorem tagg150 : tagg Try.prog 150 = some false := by kernel_rfl
theorem tbytes150 : tbytes Try.prog 150 = some 8 := by kernel_rfl
theorem tzero150 : tzero Try.prog 150 = some [.nilf] := by kernel_rfl
theorem tzv150 : tzv Try.prog 150 = some (.nilf) := by kernel_rfl
theorem tsz151 : tsz Try.prog 151 = some 1 := by kernel_rfl
theorem tagg151 : tagg Try.prog 151 = some false := by kernel_rfl
theorem tint151 : tint Try.prog 151 = some .i64 := by kernel_rfl
theorem tund151 : (Try.prog.underlying 151).isSome = true := by kernel_rfl
theorem tbytes151 : tbytes Try.prog 151 = some 8 := by kernel_rfl
theorem tzero151 : tzero Try.prog 151 = some [.int .i64 0] := by kernel_rfl
theorem tzv151 : tzv Try.prog 151 = some (.int .i64 0) := by kernel_rfl
theorem tsz152 : tsz Try.prog 152 = some 1 := by kernel_rfl
theorem tagg152 : tagg Try.prog 152 = some false := by kernel_rfl
theorem tbytes152 : tbytes Try.prog 152 = some 0 := by kernel_rfl
theorem tsz153 : tsz Try.prog 153 = some 1 := by kernel_rfl
theorem tagg153 : tagg Try.prog 153 = some false := by kernel_rfl
theorem tbytes153 : tbytes Try.prog 153 = some 8 := by kernel_rfl
theorem tzero153 : tzero Try.prog 153 = some [.nilf] := by kernel_rfl
theorem tzv153 : tzv Try.prog 153 = some (.nilf) := by kernel_rfl
theorem tsz154 : tsz Try.prog 154 = some 1 := by kernel_rfl
theorem tagg154 : tagg Try.prog 154 = some false := by kernel_rfl
theorem tbytes154 : tbytes Try.prog 154 = some 8 := by kernel_rfl
theorem tzero154 : tzero Try.prog 154 = some [.nilf] := by kernel_rfl
theorem tzv154 : tzv Try.prog 154 = some (.nilf) := by kernel_rfl
theorem tsz155 : tsz Try.prog 155 = some 1 := by kernel_rfl
theorem tagg155 : tagg Try.prog 155 = some false := by kernel_rfl
theorem tbytes155 : tbytes Try.prog 155 = some 8 := by kernel_rfl
theorem tzero155 : tzero Try.prog 155 = some [.nilf] := by kernel_rfl
theorem tzv155 : tzv Try.prog 155 = some (.nilf) := by kernel_rfl
theorem tsz156 : tsz Try.prog 156 = some 1 := by kernel_rfl
theorem tagg156 : tagg Try.prog 156 = some false := by kernel_rfl
theorem tbytes156 : tbytes Try.prog 156 = some 8 := by kernel_rfl
theorem tzero156 : tzero Try.prog 156 = some [.nilf] := by kernel_rfl
theorem tzv156 : tzv Try.prog 156 = some (.nilf) := by kernel_rfl
theorem tsz157 : tsz Try.prog 157 = some 1 := by kernel_rfl
theorem tagg157 : tagg Try.prog 157 = some false := by kernel_rfl
theorem tbytes157 : tbytes Try.prog 157 = some 8 := by kernel_rfl
theorem tzero157 : tzero Try.prog 157 = some [.nilf] := by kernel_rfl
theorem tzv157 : tzv Try.prog 157 = some (.nilf) := by kernel_rfl
theorem tsz158 : tsz Try.prog 158 = some 1 := by kernel_rfl
theorem tagg158 : tagg Try.prog 158 = some false := by kernel_rfl
theorem tbytes158 : tbytes Try.prog 158 = some 8 := by kernel_rfl
theorem tzero158 : tzero Try.prog 158 = some [.nilf] := by kernel_rfl
theorem tzv158 : tzv Try.prog 158 = some (.nilf) := by kernel_rfl
theorem tsz159 : tsz Try.prog 159 = some 1 := by kernel_rfl
theorem tagg159 : tagg Try.prog 159 = some false := by kernel_rfl
theorem tint159 : tint Try.prog 159 = some .u32 := by kernel_rfl
theorem tund159 : (Try.prog.underlying 159).isSome = true := by kernel_rfl
theorem tbytes159 : tbytes Try.prog 159 = some 4 := by kernel_rfl
theorem tzero159 : tzero Try.prog 159 = some [.int .u32 0] := by kernel_rfl
theorem tzv159 : tzv Try.prog 159 = some (.int .u32 0) := by kernel_rfl
theorem tsz160 : tsz Try.prog 160 = some 1 := by kernel_rfl
theorem tagg160 : tagg Try.prog 160 = some false := by kernel_rfl
theorem tbytes160 : tbytes Try.prog 160 = some 8 := by kernel_rfl
theorem tzero160 : tzero Try.prog 160 = some [.nilf] := by kernel_rfl
theorem tzv160 : tzv Try.prog 160 = some (.nilf) := by kernel_rfl
theorem tsz161 : tsz Try.prog 161 = some 1 := by kernel_rfl
theorem tagg161 : tagg Try.prog 161 = some false := by kernel_rfl
theorem tint161 : tint Try.prog 161 = some .u64 := by kernel_rfl
theorem tund161 : (Try.prog.underlying 161).isSome = true := by kernel_rfl
theorem tbytes161 : tbytes Try.prog 161 = some 8 := by kernel_rfl
theorem tzero161 : tzero Try.prog 161 = some [.int .u64 0] := by kernel_rfl
theorem tzv161 : tzv Try.prog 161 = some (.int .u64 0) := by kernel_rfl
theorem tsz162 : tsz Try.prog 162 = some 1 := by kernel_rfl
theorem tagg162 : tagg Try.prog 162 = some false := by kernel_rfl
theorem tbytes162 : tbytes Try.prog 162 = some 8 := by kernel_rfl
theorem tzero162 : tzero Try.prog 162 = some [.nilf] := by kernel_rfl
theorem tzv162 : tzv Try.prog 162 = some (.nilf) := by kernel_rfl
theorem tsz163 : tsz Try.prog 163 = some 1 := by kernel_rfl
theorem tagg163 : tagg Try.prog 163 = some false := by kernel_rfl
theorem tbytes163 : tbytes Try.prog 163 = some 8 := by kernel_rfl
theorem tzero163 : tzero Try.prog 163 = some [.nilf] := by kernel_rfl
theorem tzv163 : tzv Try.prog 163 = some (.nilf) := by kernel_rfl
theorem tsz164 : tsz Try.prog 164 = some 1 := by kernel_rfl
theorem tagg164 : tagg Try.prog 164 = some false := by kernel_rfl
theorem tbytes164 : tbytes Try.prog 164 = some 8 := by kernel_rfl
theorem tzero164 : tzero Try.prog 164 = some [.nilf] := by kernel_rfl
theorem tzv164 : tzv Try.prog 164 = some (.nilf) := by kernel_rfl
theorem tsz165 : tsz Try.prog 165 = some 1 := by kernel_rfl
theorem tagg165 : tagg Try.prog 165 = some false := by kernel_rfl
theorem tbytes165 : tbytes Try.prog 165 = some 8 := by kernel_rfl
theorem tzero165 : tzero Try.prog 165 = some [.nilf] := by kernel_rfl
theorem tzv165 : tzv Try.prog 165 = some (.nilf) := by kernel_rfl
theorem tsz166 : tsz Try.prog 166 = some 1 := by kernel_rfl
theorem tagg166 : tagg Try.prog 166 = some false := by kernel_rfl
theorem tint166 : tint Try.prog 166 = some .u64 := by kernel_rfl
theorem tund166 : (Try.prog.underlying 166).isSome = true := by kernel_rfl
theorem tbytes166 : tbytes Try.prog 166 = some 8 := by kernel_rfl
theorem tzero166 : tzero Try.prog 166 = some [.int .u64 0] := by kernel_rfl
theorem tzv166 : tzv Try.prog 166 = some (.int .u64 0) := by kernel_rfl
theorem tsz167 : tsz Try.prog 167 = some 1 := by kernel_rfl
theorem tagg167 : tagg Try.prog 167 = some false := by kernel_rfl
theorem tbytes167 : tbytes Try.prog 167 = some 8 := by kernel_rfl
theorem tzero167 : tzero Try.prog 167 = some [.nilf] := by kernel_rfl
theorem tzv167 : tzv Try.prog 167 = some (.nilf) := by kernel_rfl
theorem tsz168 : tsz Try.prog 168 = some 1 := by kernel_rfl
theorem tagg168 : tagg Try.prog 168 = some false := by kernel_rfl
theorem tbytes168 : tbytes Try.prog 168 = some 8 := by kernel_rfl
theorem tzero168 : tzero Try.prog 168 = some [.nilf] := by kernel_rfl
theorem tzv168 : tzv Try.prog 168 = some (.nilf) := by kernel_rfl
theorem tsz169 : tsz Try.prog 169 = some 1 := by kernel_rfl
theorem tagg169 : tagg Try.prog 169 = some false := by kernel_rfl
theorem tbytes169 : tbytes Try.prog 169 = some 8 := by kernel_rfl
theorem tzero169 : tzero Try.prog 169 = some [.nilf] := by kernel_rfl
theorem tzv169 : tzv Try.prog 169 = some (.nilf) := by kernel_rfl
theorem tsz170 : tsz Try.prog 170 = some 1 := by kernel_rfl
theorem tagg170 : tagg Try.prog 170 = some false := by kernel_rfl
theorem tbytes170 : tbytes Try.prog 170 = some 8 := by kernel_rfl
theorem tzero170 : tzero Try.prog 170 = some [.nilp] := by kernel_rfl
theorem tzv170 : tzv Try.prog 170 = some (.nilp) := by kernel_rfl
theorem tsz171 : tsz Try.prog 171 = some 1 := by kernel_rfl
theorem tagg171 : tagg Try.prog 171 = some false := by kernel_rfl
theorem tbytes171 : tbytes Try.prog 171 = some 8 := by kernel_rfl
theorem tzero171 : tzero Try.prog 171 = some [.nilf] := by kernel_rfl
theorem tzv171 : tzv Try.prog 171 = some (.nilf) := by kernel_rfl
theorem tsz172 : tsz Try.prog 172 = some 1 := by kernel_rfl
theorem tagg172 : tagg Try.prog 172 = some false := by kernel_rfl
theorem tbytes172 : tbytes Try.prog 172 = some 8 := by kernel_rfl
theorem tzero172 : tzero Try.prog 172 = some [.nilf] := by kernel_rfl
theorem tzv172 : tzv Try.prog 172 = some (.nilf) := by kernel_rfl
theorem tsz173 : tsz Try.prog 173 = some 1 := by kernel_rfl
theorem tagg173 : tagg Try.prog 173 = some false := by kernel_rfl
theorem tbytes173 : tbytes Try.prog 173 = some 8 := by kernel_rfl
theorem tzero173 : tzero Try.prog 173 = some [.nilp] := by kernel_rfl
theorem tzv173 : tzv Try.prog 173 = some (.nilp) := by kernel_rfl
theorem tsz174 : tsz Try.prog 174 = some 1 := by kernel_rfl
theorem tagg174 : tagg Try.prog 174 = some false := by kernel_rfl
theorem tbytes174 : tbytes Try.prog 174 = some 0 := by kernel_rfl
theorem tsz175 : tsz Try.prog 175 = some 1 := by kernel_rfl
theorem tagg175 : tagg Try.prog 175 = some false := by kernel_rfl
theorem tbytes175 : tbytes Try.prog 175 = some 8 := by kernel_rfl
theorem tzero175 : tzero Try.prog 175 = some [.nilf] := by kernel_rfl
theorem tzv175 : tzv Try.prog 175 = some (.nilf) := by kernel_rfl
theorem tsz176 : tsz Try.prog 176 = some 1 := by kernel_rfl
theorem tagg176 : tagg Try.prog 176 = some false := by kernel_rfl
theorem tbytes176 : tbytes Try.prog 176 = some 8 := by kernel_rfl
theorem tzero176 : tzero Try.prog 176 = some [.nilf] := by kernel_rfl
theorem tzv176 : tzv Try.prog 176 = some (.nilf) := by kernel_rfl
theorem tsz177 : tsz Try.prog 177 = some 4 := by kernel_rfl
theorem tagg177 : tagg Try.prog 177 = some true := by kernel_rfl
theorem tarr177 : tarr Try.prog 177 = none := by kernel_rfl
theorem tbytes177 : tbytes Try.prog 177 = some 40 := by kernel_rfl
theorem tzero177 : tzero Try.prog 177 = some [.nilp, .nilp, .nilp, .str (ByteArray.mk #[])] := by kernel_rfl
theorem tzv177 : tzv Try.prog 177 = some (.agg [.nilp, .nilp, .nilp, .str (ByteArray.mk #[])]) := by kernel_rfl
theorem tplaces177 : tplaces Try.prog 177 = some [(0, 1), (1, 1), (2, 1), (3, 1)] := by kernel_rfl
theorem tfld177_0 : tfld Try.prog 177 0 = some (0, 17) := by kernel_rfl
theorem tfld177_1 : tfld Try.prog 177 1 = some (1, 17) := by kernel_rfl
theorem tfld177_2 : tfld Try.prog 177 2 = some (2, 17) := by kernel_rfl
theorem tfld177_3 : tfld Try.prog 177 3 = some (3, 9) := by kernel_rfl
theorem tsz178 : tsz Try.prog 178 = some 4 := by kernel_rfl
theorem tagg178 : tagg Try.prog 178 = some true := by kernel_rfl
theorem tarr178 : tarr Try.prog 178 = none := by kernel_rfl
theorem tbytes178 : tbytes Try.prog 178 = some 40 := by kernel_rfl
theorem tzero178 : tzero Try.prog 178 = some [.nilp, .nilp, .nilp, .str (ByteArray.mk #[])] := by kernel_rfl
theorem tzv178 : tzv Try.prog 178 = some (.agg [.nilp, .nilp, .nilp, .str (ByteArray.mk #[])]) := by kernel_rfl
theorem tplaces178 : tplaces Try.prog 178 = some [(0, 1), (1, 1), (2, 1), (3, 1)] := by kernel_rfl
theorem tfld178_0 : tfld Try.prog 178 0 = some (0, 17) := by kernel_rfl
theorem tfld178_1 : tfld Try.prog 178 1 = some (1, 17) := by kernel_rfl
theorem tfld178_2 : tfld Try.prog 178 2 = some (2, 17) := by kernel_rfl
theorem tfld178_3 : tfld Try.prog 178 3 = some (3, 9) := by kernel_rfl
theorem tsz179 : tsz Try.prog 179 = some 0 := by kernel_rfl
theorem tagg179 : tagg Try.prog 179 = some true := by kernel_rfl
theorem tslice179 : tslice Try.prog 179 = none := by kernel_rfl
theorem tarr179 : tarr Try.prog 179 = some (0, 16) := by kernel_rfl
theorem tbytes179 : tbytes Try.prog 179 = some 0 := by kernel_rfl
theorem tzero179 : tzero Try.prog 179 = some [] := by kernel_rfl
theorem tzv179 : tzv Try.prog 179 = some (.agg []) := by kernel_rfl
theorem tsz180 : tsz Try.prog 180 = some 0 := by kernel_rfl
theorem tagg180 : tagg Try.prog 180 = some true := by kernel_rfl
theorem tarr180 : tarr Try.prog 180 = none := by kernel_rfl
theorem tbytes180 : tbytes Try.prog 180 = some 0 := by kernel_rfl
theorem tzero180 : tzero Try.prog 180 = some [] := by kernel_rfl
theorem tzv180 : tzv Try.prog 180 = some (.agg []) := by kernel_rfl
theorem tplaces180 : tplaces Try.prog 180 = some [(0, 0)] := by kernel_rfl
theorem tfld180_0 : tfld Try.prog 180 0 = some (0, 179) := by kernel_rfl
attribute [go_sem] tsz141 tagg141 tbytes141 tzero141 tzv141 tsz142 tagg142 tbytes142 tzero142 tzv142 tsz143 tagg143 tarr143 tbytes143 tzero143 tzv143 tplaces143 tfld143_0 tsz144 tagg144 tarr144 tbytes144 tzero144 tzv144 tplaces144 tfld144_0 tsz145 tagg145 tslice145 tbytes145 tzero145 tzv145 tsz146 tagg146 tbytes146 tzero146 tzv146 tsz147 tagg147 tbytes147 tzero147 tzv147 tsz148 tagg148 tbytes148 tzero148 tzv148 tsz149 tagg149 tbytes149 tzero149 tzv149 tsz150 tagg150 tbytes150 tzero150 tzv150 tsz151 tagg151 tint151 tund151 tbytes151 tzero151 tzv151 tsz152 tagg152 tbytes152 tsz153 tagg153 tbytes153 tzero153 tzv153 tsz154 tagg154 tbytes154 tzero154 tzv154 tsz155 tagg155 tbytes155 tzero155 tzv155 tsz156 tagg156 tbytes156 tzero156 tzv156 tsz157 tagg157 tbytes157 tzero157 tzv157 tsz158 tagg158 tbytes158 tzero158 tzv158 tsz159 tagg159 tint159 tund159 tbytes159 tzero159 tzv159 tsz160 tagg160 tbytes160 tzero160 tzv160 tsz161 tagg161 tint161 tund161 tbytes161 tzero161 tzv161 tsz162 tagg162 tbytes162 tzero162 tzv162 tsz163 tagg163 tbytes163 tzero163 tzv163 tsz164 tagg164 tbytes164 tzero164 tzv164 tsz165 tagg165 tbytes165 tzero165 tzv165 tsz166 tagg166 tint166 tund166 tbytes166 tzero166 tzv166 tsz167 tagg167 tbytes167 tzero167 tzv167 tsz168 tagg168 tbytes168 tzero168 tzv168 tsz169 tagg169 tbytes169 tzero169 tzv169 tsz170 tagg170 tbytes170 tzero170 tzv170 tsz171 tagg171 tbytes171 tzero171 tzv171 tsz172 tagg172 tbytes172 tzero172 tzv172 tsz173 tagg173 tbytes173 tzero173 tzv173 tsz174 tagg174 tbytes174 tsz175 tagg175 tbytes175 tzero175 tzv175 tsz176 tagg176 tbytes176 tzero176 tzv176 tsz177 tagg177 tarr177 tbytes177 tzero177 tzv177 tplaces177 tfld177_0 tfld177_1 tfld177_2 tfld177_3 tsz178 tagg178 tarr178 tbytes178 tzero178 tzv178 tplaces178 tfld178_0 tfld178_1 tfld178_2 tfld178_3 tsz179 tagg179 tslice179 tarr179 tbytes179 tzero179 tzv179 tsz180 tagg180 tarr180 tbytes180 tzero180 tzv180 tplaces180 tfld180_0
end Go.Am

/- Contracts of the away functions: small ones, structs. -/
namespace Go.Am
open Go.RowKit Go.Proofs
attribute [local irreducible] AWP CallS Kt goK CallK stepK evOps
set_option maxRecDepth 4000
set_option linter.unusedSimpArgs false
set_option linter.unusedVariables false
set_option maxHeartbeats 400000

structure Home where
  people : Int
  pets : Int
  lo : Int
  hi : Int
  walk : Int
  gone : Int
structure Hall where
  room : Int
  pets : Int
  drive : Int
instance : Inhabited Home := ⟨⟨0, 0, 0, 0, 0, 0⟩⟩
instance : Inhabited Hall := ⟨⟨0, 0, 0⟩⟩
structure Town where
  homes : List Home
  halls : List Hall
  seats : Int
  clo : Int
  chi : Int
def homeC (h : Home) : List AV := [.int .i64 h.people, .int .u8 h.pets, .int .i64 h.lo, .int .i64 h.hi, .int .i64 h.walk, .int .i64 h.gone]
def hallC (h : Hall) : List AV := [.int .i64 h.room, .int .u8 h.pets, .int .i64 h.drive]
def slH (l : List Home) : AV := .psl false l.length (recs homeC l)
def slL (l : List Hall) : AV := .psl false l.length (recs hallC l)
def townC (t : Town) : List AV := [slH t.homes, slL t.halls, .int .i64 t.seats, .int .i64 t.clo, .int .i64 t.chi]
attribute [go_sem] List.append_eq homeC hallC slH slL townC
section
variable {α : Type} {enc : α → List AV} {sz : Nat} {l : List α} {d : α} {P : Program} {t : TypeId}
theorem ld_recs (ht : tagg P t = some true) (hs : tsz P t = some sz) (he : ∀ a, (enc a).length = sz) (hz : 0 < sz) {i : Nat} {K : AV → Prop} : loadK P t (recs enc l) (i * sz) K = (i < l.length ∧ K (.agg (enc (l.getD i d)))) := by
  simp only [loadK, ht, hs, recs_length he]
  by_cases hi : i < l.length
  · have : i * sz + sz ≤ l.length * sz := by
      rw [show i * sz + sz = (i + 1) * sz by rw [Nat.add_mul, Nat.one_mul]]; exact Nat.mul_le_mul_right _ hi
    rw [recs_window (d := d) he hi]
    simp [this, hi]
  · have : ¬ i * sz + sz ≤ l.length * sz := by
      intro h
      rw [show i * sz + sz = (i + 1) * sz by rw [Nat.add_mul, Nat.one_mul]] at h
      have := Nat.le_of_mul_le_mul_right h hz
      omega
    simp [this, hi]
theorem nth_recs (he : ∀ a, (enc a).length = sz) {i o : Nat} (ho : o < sz) {K : AV → Prop} : optK (nth (recs enc l) (i * sz + o)) K = (i < l.length ∧ optK (nth (enc (l.getD i d)) o) K) := by
  by_cases hi : i < l.length
  · rw [recs_nth (d := d) he hi ho]; simp [hi]
  · have : nth (recs enc l) (i * sz + o) = none := by
      rw [← nth_is, List.getElem?_eq_none]
      rw [recs_length he]
      have := Nat.mul_le_mul_right sz (Nat.le_of_not_lt hi)
      omega
    simp [this, hi, optK]
theorem ld_recsub {n o : Nat} (ht : tagg P t = some true) (hs : tsz P t = some n) (he : ∀ a, (enc a).length = sz) (hn : 0 < n) (ho : o + n ≤ sz) {i : Nat} {K : AV → Prop} : loadK P t (recs enc l) (i * sz + o) K = (i < l.length ∧ K (.agg (window (enc (l.getD i d)) o n))) := by
  simp only [loadK, ht, hs, recs_length he]
  by_cases hi : i < l.length
  · have h1 : i * sz + sz ≤ l.length * sz := by
      rw [show i * sz + sz = (i + 1) * sz by rw [Nat.add_mul, Nat.one_mul]]; exact Nat.mul_le_mul_right _ hi
    have h2 : window (recs enc l) (i * sz + o) n = window (enc (l.getD i d)) o n := by
      simp only [window]
      rw [← List.drop_drop, recs_at (d := d) he hi, List.drop_append_of_le_length (by rw [he]; omega), List.take_append_of_le_length (by rw [List.length_drop, he]; omega)]
    rw [h2]
    simp [show i * sz + o + n ≤ l.length * sz by omega, hi]
  · have : ¬ i * sz + o + n ≤ l.length * sz := by
      have := Nat.mul_le_mul_right sz (Nat.le_of_not_lt hi)
      omega
    simp [this, hi]
end
theorem pl_H {l : List Home} : pureL (recs homeC l) = True := eq_true (recs_pure fun s => by simp [pureL, homeC, cellPure])
theorem lv_H {l : List Home} {p : Nat → Bool} : (recs homeC l).all (live2 p) = true := recs_live fun s => by simp [pureL, homeC, cellPure]
theorem len_H {l : List Home} : (recs homeC l).length = l.length * 6 := recs_length fun _ => rfl
theorem ld_H {l : List Home} {i : Nat} {K : AV → Prop} : loadK Try.prog 106 (recs homeC l) (i * 6) K = (i < l.length ∧ K (.agg (homeC (l.getD i default)))) := ld_recs tagg106 tsz106 (fun _ => rfl) (by omega)
theorem nth_H0 {l : List Home} {i : Nat} {K : AV → Prop} : optK (nth (recs homeC l) (i * 6)) K = (i < l.length ∧ K (.int .i64 (l.getD i default).people)) := nth_recs (sz := 6) (o := 0) (fun _ => rfl) (by omega)
theorem nth_H1 {l : List Home} {i : Nat} {K : AV → Prop} : optK (nth (recs homeC l) (i * 6 + 1)) K = (i < l.length ∧ K (.int .u8 (l.getD i default).pets)) := nth_recs (sz := 6) (o := 1) (fun _ => rfl) (by omega)
theorem nth_H2 {l : List Home} {i : Nat} {K : AV → Prop} : optK (nth (recs homeC l) (i * 6 + 2)) K = (i < l.length ∧ K (.int .i64 (l.getD i default).lo)) := nth_recs (sz := 6) (o := 2) (fun _ => rfl) (by omega)
theorem nth_H3 {l : List Home} {i : Nat} {K : AV → Prop} : optK (nth (recs homeC l) (i * 6 + 3)) K = (i < l.length ∧ K (.int .i64 (l.getD i default).hi)) := nth_recs (sz := 6) (o := 3) (fun _ => rfl) (by omega)
theorem nth_H4 {l : List Home} {i : Nat} {K : AV → Prop} : optK (nth (recs homeC l) (i * 6 + 4)) K = (i < l.length ∧ K (.int .i64 (l.getD i default).walk)) := nth_recs (sz := 6) (o := 4) (fun _ => rfl) (by omega)
theorem nth_H5 {l : List Home} {i : Nat} {K : AV → Prop} : optK (nth (recs homeC l) (i * 6 + 5)) K = (i < l.length ∧ K (.int .i64 (l.getD i default).gone)) := nth_recs (sz := 6) (o := 5) (fun _ => rfl) (by omega)
theorem pl_L {l : List Hall} : pureL (recs hallC l) = True := eq_true (recs_pure fun s => by simp [pureL, hallC, cellPure])
theorem lv_L {l : List Hall} {p : Nat → Bool} : (recs hallC l).all (live2 p) = true := recs_live fun s => by simp [pureL, hallC, cellPure]
theorem len_L {l : List Hall} : (recs hallC l).length = l.length * 3 := recs_length fun _ => rfl
theorem ld_L {l : List Hall} {i : Nat} {K : AV → Prop} : loadK Try.prog 91 (recs hallC l) (i * 3) K = (i < l.length ∧ K (.agg (hallC (l.getD i default)))) := ld_recs tagg91 tsz91 (fun _ => rfl) (by omega)
theorem nth_L0 {l : List Hall} {i : Nat} {K : AV → Prop} : optK (nth (recs hallC l) (i * 3)) K = (i < l.length ∧ K (.int .i64 (l.getD i default).room)) := nth_recs (sz := 3) (o := 0) (fun _ => rfl) (by omega)
theorem nth_L1 {l : List Hall} {i : Nat} {K : AV → Prop} : optK (nth (recs hallC l) (i * 3 + 1)) K = (i < l.length ∧ K (.int .u8 (l.getD i default).pets)) := nth_recs (sz := 3) (o := 1) (fun _ => rfl) (by omega)
theorem nth_L2 {l : List Hall} {i : Nat} {K : AV → Prop} : optK (nth (recs hallC l) (i * 3 + 2)) K = (i < l.length ∧ K (.int .i64 (l.getD i default).drive)) := nth_recs (sz := 3) (o := 2) (fun _ => rfl) (by omega)
theorem ld_H38 {l : List Home} {i : Nat} {K : AV → Prop} : loadK Try.prog 38 (recs homeC l) (i * 6 + 2) K = (i < l.length ∧ K (.agg [.int .i64 (l.getD i default).lo, .int .i64 (l.getD i default).hi])) := ld_recsub (sz := 6) (n := 2) (o := 2) tagg38 tsz38 (fun _ => rfl) (by omega) (by omega)
theorem ld_H25 {l : List Home} {i : Nat} {K : AV → Prop} : loadK Try.prog 25 (recs homeC l) (i * 6 + 2) K = (i < l.length ∧ K (.agg [.int .i64 (l.getD i default).lo, .int .i64 (l.getD i default).hi])) := ld_recsub (sz := 6) (n := 2) (o := 2) tagg25 tsz25 (fun _ => rfl) (by omega) (by omega)
attribute [go_sem ↓] ld_H38 ld_H25
attribute [go_sem] pl_H lv_H len_H nth_H0 nth_H1 nth_H2 nth_H3 nth_H4 nth_H5 pl_L lv_L len_L nth_L0 nth_L1 nth_L2
attribute [go_sem ↓] ld_H ld_L

theorem cond_b {b : Bool} {A B : Prop} (h1 : b = true → A) (h2 : b = false → B) : condK (.bool b) A B := by
  cases b
  · exact h2 rfl
  · exact h1 rfl
theorem within_c (n lo hi : Int) : CallS Try.prog 62 [.int .i64 n, .int .i64 lo, .int .i64 hi] (.bool (decide (lo ≤ n ∧ n ≤ hi))) := by
  (refine callS_of_awp (fun w args => Try.call62 ..) Try.func62 rfl (fun w0 m0 wz => ?_); simp only [Try.ntmps62, Try.results62, initT, junks, homeC, hallC, sl, List.toList_toArray, List.cons_append, List.nil_append, List.length_cons, List.length_nil, Nat.reduceAdd, Nat.reduceSub])
  (repeat' (first
    | (refine awp_seqK ?_)
    | (refine kt ?_)
    | (refine And.intro ?_ ?_)
    | ((first | refine awp_region ?_ | refine awp_draw (by kernel_rfl) (by kernel_rfl) ?_ | refine Imp.le2 ?_ | refine awp_label ?_ | refine awp_skip ?_ | refine awp_exit ?_ | refine awp_cd ?_ | refine awp_ret ?_ | refine go_split (fun _h => ?_) (fun _h => ?_)) <;> try simp (maxSteps := 4000000) only [go_sem, seval])
    | (intro _h)
    | (refine awp_block ?_)
    | (refine awp_scope ?_)
    | (show heapOK _ _ = true; kernel_rfl)
    | (show heapOK2 _ _ = true; kernel_rfl)
    | (omega)))
theorem in_c (n lo hi : Int) : CallS Try.prog 36 [.int .i64 n, .int .i64 lo, .int .i64 hi] (.bool (decide (lo ≤ n ∧ n ≤ hi))) := by
  (refine callS_of_awp (fun w args => Try.call36 ..) Try.func36 rfl (fun w0 m0 wz => ?_); simp only [Try.ntmps36, Try.results36, initT, junks, homeC, hallC, sl, List.toList_toArray, List.cons_append, List.nil_append, List.length_cons, List.length_nil, Nat.reduceAdd, Nat.reduceSub])
  (repeat' (first
    | (refine awp_seqK ?_)
    | (refine kt ?_)
    | (refine And.intro ?_ ?_)
    | ((first | refine awp_region ?_ | refine awp_draw (by kernel_rfl) (by kernel_rfl) ?_ | refine Imp.le2 ?_ | refine awp_label ?_ | refine awp_skip ?_ | refine awp_exit ?_ | refine awp_cd ?_ | refine awp_ret ?_ | refine go_split (fun _h => ?_) (fun _h => ?_)) <;> try simp (maxSteps := 4000000) only [go_sem, seval])
    | (intro _h)
    | (refine awp_block ?_)
    | (refine awp_scope ?_)
    | (show heapOK _ _ = true; kernel_rfl)
    | (show heapOK2 _ _ = true; kernel_rfl)
    | (omega)))
theorem max2_c (f : Bool) (a b : Int) : CallS Try.prog 87 [.psl f 2 [.int .i64 a, .int .i64 b]] (.int .i64 (max a b)) := by
  (refine callS_of_awp (fun w args => Try.call87 ..) Try.func87 rfl (fun w0 m0 wz => ?_); simp only [Try.ntmps87, Try.results87, initT, junks, homeC, hallC, sl, List.toList_toArray, List.cons_append, List.nil_append, List.length_cons, List.length_nil, Nat.reduceAdd, Nat.reduceSub])
  (repeat' (first
    | (refine awp_seqK ?_)
    | (refine kt ?_)
    | (refine And.intro ?_ ?_)
    | ((first | refine awp_region ?_ | refine awp_draw (by kernel_rfl) (by kernel_rfl) ?_ | refine Imp.le2 ?_ | refine awp_label ?_ | refine awp_skip ?_ | refine awp_exit ?_ | refine awp_cd ?_ | refine awp_ret ?_ | refine go_split (fun _h => ?_) (fun _h => ?_)) <;> try simp (maxSteps := 4000000) only [go_sem, seval])
    | (intro _h)
    | (refine awp_block ?_)
    | (refine awp_scope ?_)
    | (show heapOK _ _ = true; kernel_rfl)
    | (show heapOK2 _ _ = true; kernel_rfl)
    | (omega)))
  (refine awp_rounds 2 ?_; rw [ar_s])
  (repeat' (first
    | (refine awp_seqK ?_)
    | (refine kt ?_)
    | (refine And.intro ?_ ?_)
    | ((first | refine awp_region ?_ | refine awp_draw (by kernel_rfl) (by kernel_rfl) ?_ | refine Imp.le2 ?_ | refine awp_label ?_ | refine awp_skip ?_ | refine awp_exit ?_ | refine awp_cd ?_ | refine awp_ret ?_ | refine go_split (fun _h => ?_) (fun _h => ?_)) <;> try simp (maxSteps := 4000000) only [go_sem, seval])
    | (intro _h)
    | (refine awp_block ?_)
    | (refine awp_scope ?_)
    | (show heapOK _ _ = true; kernel_rfl)
    | (show heapOK2 _ _ = true; kernel_rfl)
    | (omega)))
theorem min2_c (f : Bool) (a b : Int) : CallS Try.prog 94 [.psl f 2 [.int .i64 a, .int .i64 b]] (.int .i64 (min a b)) := by
  (refine callS_of_awp (fun w args => Try.call94 ..) Try.func94 rfl (fun w0 m0 wz => ?_); simp only [Try.ntmps94, Try.results94, initT, junks, homeC, hallC, sl, List.toList_toArray, List.cons_append, List.nil_append, List.length_cons, List.length_nil, Nat.reduceAdd, Nat.reduceSub])
  (repeat' (first
    | (refine awp_seqK ?_)
    | (refine kt ?_)
    | (refine And.intro ?_ ?_)
    | ((first | refine awp_region ?_ | refine awp_draw (by kernel_rfl) (by kernel_rfl) ?_ | refine Imp.le2 ?_ | refine awp_label ?_ | refine awp_skip ?_ | refine awp_exit ?_ | refine awp_cd ?_ | refine awp_ret ?_ | refine go_split (fun _h => ?_) (fun _h => ?_)) <;> try simp (maxSteps := 4000000) only [go_sem, seval])
    | (intro _h)
    | (refine awp_block ?_)
    | (refine awp_scope ?_)
    | (show heapOK _ _ = true; kernel_rfl)
    | (show heapOK2 _ _ = true; kernel_rfl)
    | (omega)))
  (refine awp_rounds 2 ?_; rw [ar_s])
  (repeat' (first
    | (refine awp_seqK ?_)
    | (refine kt ?_)
    | (refine And.intro ?_ ?_)
    | ((first | refine awp_region ?_ | refine awp_draw (by kernel_rfl) (by kernel_rfl) ?_ | refine Imp.le2 ?_ | refine awp_label ?_ | refine awp_skip ?_ | refine awp_exit ?_ | refine awp_cd ?_ | refine awp_ret ?_ | refine go_split (fun _h => ?_) (fun _h => ?_)) <;> try simp (maxSteps := 4000000) only [go_sem, seval])
    | (intro _h)
    | (refine awp_block ?_)
    | (refine awp_scope ?_)
    | (show heapOK _ _ = true; kernel_rfl)
    | (show heapOK2 _ _ = true; kernel_rfl)
    | (omega)))
theorem latest_c (f : Bool) (a b : Int) : CallS Try.prog 63 [.psl f 2 [.int .i64 a, .int .i64 b]] (.int .i64 (max a b)) := by
  (refine callS_of_awp (fun w args => Try.call63 ..) Try.func63 rfl (fun w0 m0 wz => ?_); simp only [Try.ntmps63, Try.results63, initT, junks, homeC, hallC, sl, List.toList_toArray, List.cons_append, List.nil_append, List.length_cons, List.length_nil, Nat.reduceAdd, Nat.reduceSub])
  (repeat' (first
    | (refine awp_seqK ?_)
    | (refine kt ?_)
    | (refine And.intro ?_ ?_)
    | ((first | refine awp_region ?_ | refine awp_draw (by kernel_rfl) (by kernel_rfl) ?_ | refine Imp.le2 ?_ | refine awp_label ?_ | refine awp_skip ?_ | refine awp_exit ?_ | refine awp_cd ?_ | refine awp_ret ?_ | refine callK_of (max2_c _ _ _) ?_ | refine go_split (fun _h => ?_) (fun _h => ?_)) <;> try simp (maxSteps := 4000000) only [go_sem, seval])
    | (intro _h)
    | (refine awp_block ?_)
    | (refine awp_scope ?_)
    | (show heapOK _ _ = true; kernel_rfl)
    | (show heapOK2 _ _ = true; kernel_rfl)
    | (omega)))
theorem earliest_c (f : Bool) (a b : Int) : CallS Try.prog 75 [.psl f 2 [.int .i64 a, .int .i64 b]] (.int .i64 (min a b)) := by
  (refine callS_of_awp (fun w args => Try.call75 ..) Try.func75 rfl (fun w0 m0 wz => ?_); simp only [Try.ntmps75, Try.results75, initT, junks, homeC, hallC, sl, List.toList_toArray, List.cons_append, List.nil_append, List.length_cons, List.length_nil, Nat.reduceAdd, Nat.reduceSub])
  (repeat' (first
    | (refine awp_seqK ?_)
    | (refine kt ?_)
    | (refine And.intro ?_ ?_)
    | ((first | refine awp_region ?_ | refine awp_draw (by kernel_rfl) (by kernel_rfl) ?_ | refine Imp.le2 ?_ | refine awp_label ?_ | refine awp_skip ?_ | refine awp_exit ?_ | refine awp_cd ?_ | refine awp_ret ?_ | refine callK_of (min2_c _ _ _) ?_ | refine go_split (fun _h => ?_) (fun _h => ?_)) <;> try simp (maxSteps := 4000000) only [go_sem, seval])
    | (intro _h)
    | (refine awp_block ?_)
    | (refine awp_scope ?_)
    | (show heapOK _ _ = true; kernel_rfl)
    | (show heapOK2 _ _ = true; kernel_rfl)
    | (omega)))
theorem has_c (lo hi n : Int) : CallS Try.prog 66 [.agg [.int .i64 lo, .int .i64 hi], .int .i64 n] (.bool (decide (lo ≤ n ∧ n ≤ hi))) := by
  (refine callS_of_awp (fun w args => Try.call66 ..) Try.func66 rfl (fun w0 m0 wz => ?_); simp only [Try.ntmps66, Try.results66, initT, junks, homeC, hallC, sl, List.toList_toArray, List.cons_append, List.nil_append, List.length_cons, List.length_nil, Nat.reduceAdd, Nat.reduceSub])
  (repeat' (first
    | (refine awp_seqK ?_)
    | (refine kt ?_)
    | (refine And.intro ?_ ?_)
    | ((first | refine awp_region ?_ | refine awp_draw (by kernel_rfl) (by kernel_rfl) ?_ | refine Imp.le2 ?_ | refine awp_label ?_ | refine awp_skip ?_ | refine awp_exit ?_ | refine awp_cd ?_ | refine awp_ret ?_ | refine callK_of (within_c _ _ _) ?_ | refine go_split (fun _h => ?_) (fun _h => ?_)) <;> try simp (maxSteps := 4000000) only [go_sem, seval])
    | (intro _h)
    | (refine awp_block ?_)
    | (refine awp_scope ?_)
    | (show heapOK _ _ = true; kernel_rfl)
    | (show heapOK2 _ _ = true; kernel_rfl)
    | (omega)))
theorem upto_c (lo hi m : Int) : CallS Try.prog 69 [.agg [.int .i64 lo, .int .i64 hi], .int .i64 m] (.bool (decide (0 ≤ lo ∧ lo ≤ hi ∧ hi ≤ m))) := by
  (refine callS_of_awp (fun w args => Try.call69 ..) Try.func69 rfl (fun w0 m0 wz => ?_); simp only [Try.ntmps69, Try.results69, initT, junks, homeC, hallC, sl, List.toList_toArray, List.cons_append, List.nil_append, List.length_cons, List.length_nil, Nat.reduceAdd, Nat.reduceSub])
  (repeat' (first
    | (refine awp_seqK ?_)
    | (refine kt ?_)
    | (refine And.intro ?_ ?_)
    | ((first | refine awp_region ?_ | refine awp_draw (by kernel_rfl) (by kernel_rfl) ?_ | refine Imp.le2 ?_ | refine awp_label ?_ | refine awp_skip ?_ | refine awp_exit ?_ | refine awp_cd ?_ | refine awp_ret ?_ | refine go_split (fun _h => ?_) (fun _h => ?_)) <;> try simp (maxSteps := 4000000) only [go_sem, seval])
    | (intro _h)
    | (refine awp_block ?_)
    | (refine awp_scope ?_)
    | (show heapOK _ _ = true; kernel_rfl)
    | (show heapOK2 _ _ = true; kernel_rfl)
    | (omega)))
theorem span_c (lo hi m : Int) : CallS Try.prog 58 [.agg [.int .i64 lo, .int .i64 hi], .int .i64 m] (.bool (decide (0 ≤ lo ∧ lo ≤ hi ∧ hi ≤ m))) := by
  (refine callS_of_awp (fun w args => Try.call58 ..) Try.func58 rfl (fun w0 m0 wz => ?_); simp only [Try.ntmps58, Try.results58, initT, junks, homeC, hallC, sl, List.toList_toArray, List.cons_append, List.nil_append, List.length_cons, List.length_nil, Nat.reduceAdd, Nat.reduceSub])
  (repeat' (first
    | (refine awp_seqK ?_)
    | (refine kt ?_)
    | (refine And.intro ?_ ?_)
    | ((first | refine awp_region ?_ | refine awp_draw (by kernel_rfl) (by kernel_rfl) ?_ | refine Imp.le2 ?_ | refine awp_label ?_ | refine awp_skip ?_ | refine awp_exit ?_ | refine awp_cd ?_ | refine awp_ret ?_ | refine callK_of (in_c _ _ _) ?_ | refine go_split (fun _h => ?_) (fun _h => ?_)) <;> try simp (maxSteps := 4000000) only [go_sem, seval])
    | (intro _h)
    | (refine awp_block ?_)
    | (refine awp_scope ?_)
    | (show heapOK _ _ = true; kernel_rfl)
    | (show heapOK2 _ _ = true; kernel_rfl)
    | (omega)))
def homeB (h : Home) : Bool := decide ((1 ≤ h.people ∧ h.people ≤ 200) ∧ (0 ≤ h.lo ∧ h.lo ≤ h.hi ∧ h.hi ≤ 1000) ∧ (0 ≤ h.walk ∧ h.walk ≤ 1000) ∧ 0 ≤ h.gone ∧ h.gone ≤ 10000)
def hallB (h : Hall) : Bool := decide ((0 ≤ h.room ∧ h.room ≤ 2000) ∧ 0 ≤ h.drive ∧ h.drive ≤ 1000)
theorem homeV_c (h : Home) : CallS Try.prog 71 [.agg (homeC h)] (.bool (homeB h)) := by
  unfold homeB
  (refine callS_of_awp (fun w args => Try.call71 ..) Try.func71 rfl (fun w0 m0 wz => ?_); simp only [Try.ntmps71, Try.results71, initT, junks, homeC, hallC, sl, List.toList_toArray, List.cons_append, List.nil_append, List.length_cons, List.length_nil, Nat.reduceAdd, Nat.reduceSub])
  (repeat' (first
    | (refine awp_seqK ?_)
    | (refine kt ?_)
    | (refine And.intro ?_ ?_)
    | ((first | refine awp_region ?_ | refine awp_draw (by kernel_rfl) (by kernel_rfl) ?_ | refine Imp.le2 ?_ | refine awp_label ?_ | refine awp_skip ?_ | refine awp_exit ?_ | refine awp_cd ?_ | refine awp_ret ?_ | refine callK_of (within_c _ _ _) ?_ | refine callK_of (upto_c _ _ _) ?_ | refine go_split (fun _h => ?_) (fun _h => ?_)) <;> try simp (maxSteps := 4000000) only [go_sem, seval])
    | (intro _h)
    | (refine awp_block ?_)
    | (refine awp_scope ?_)
    | (show heapOK _ _ = true; kernel_rfl)
    | (show heapOK2 _ _ = true; kernel_rfl)
    | (omega)))
theorem hallV_c (h : Hall) : CallS Try.prog 73 [.agg (hallC h)] (.bool (hallB h)) := by
  unfold hallB
  (refine callS_of_awp (fun w args => Try.call73 ..) Try.func73 rfl (fun w0 m0 wz => ?_); simp only [Try.ntmps73, Try.results73, initT, junks, homeC, hallC, sl, List.toList_toArray, List.cons_append, List.nil_append, List.length_cons, List.length_nil, Nat.reduceAdd, Nat.reduceSub])
  (repeat' (first
    | (refine awp_seqK ?_)
    | (refine kt ?_)
    | (refine And.intro ?_ ?_)
    | ((first | refine awp_region ?_ | refine awp_draw (by kernel_rfl) (by kernel_rfl) ?_ | refine Imp.le2 ?_ | refine awp_label ?_ | refine awp_skip ?_ | refine awp_exit ?_ | refine awp_cd ?_ | refine awp_ret ?_ | refine callK_of (within_c _ _ _) ?_ | refine go_split (fun _h => ?_) (fun _h => ?_)) <;> try simp (maxSteps := 4000000) only [go_sem, seval])
    | (intro _h)
    | (refine awp_block ?_)
    | (refine awp_scope ?_)
    | (show heapOK _ _ = true; kernel_rfl)
    | (show heapOK2 _ _ = true; kernel_rfl)
    | (omega)))
theorem home_c (t : Town) (n : Int) (hl : t.homes.length ≤ 1000000) : CallS Try.prog 65 [.agg (townC t), .int .i64 n] (.bool (decide (0 ≤ n ∧ n < t.homes.length))) := by
  (refine callS_of_awp (fun w args => Try.call65 ..) Try.func65 rfl (fun w0 m0 wz => ?_); simp only [Try.ntmps65, Try.results65, initT, junks, homeC, hallC, sl, List.toList_toArray, List.cons_append, List.nil_append, List.length_cons, List.length_nil, Nat.reduceAdd, Nat.reduceSub])
  simp only [townC, slH, slL]
  (repeat' (first
    | (refine awp_seqK ?_)
    | (refine kt ?_)
    | (refine And.intro ?_ ?_)
    | ((first | refine awp_region ?_ | refine awp_draw (by kernel_rfl) (by kernel_rfl) ?_ | refine Imp.le2 ?_ | refine awp_label ?_ | refine awp_skip ?_ | refine awp_exit ?_ | refine awp_cd ?_ | refine awp_ret ?_ | refine callK_of (within_c _ _ _) ?_ | refine go_split (fun _h => ?_) (fun _h => ?_)) <;> try simp (maxSteps := 4000000) only [go_sem, seval])
    | (intro _h)
    | (refine awp_block ?_)
    | (refine awp_scope ?_)
    | (show heapOK _ _ = true; kernel_rfl)
    | (show heapOK2 _ _ = true; kernel_rfl)
    | (omega)))
end Go.Am

/- Contracts of the away functions: lists of which each element is right; a town that is valid. -/
namespace Go.Am
open Go.RowKit Go.Proofs
attribute [local irreducible] AWP CallS Kt goK CallK stepK evOps
set_option maxRecDepth 4000
set_option linter.unusedSimpArgs false
set_option linter.unusedVariables false
set_option maxHeartbeats 400000

/-- The place of the first one, or -1. -/
def idxOf {α : Type} (q : α → Bool) (l : List α) : Int := match l.findIdx? q with | some i => i | none => -1
theorem idxOf_some {α : Type} {q : α → Bool} {l : List α} {d : α} {i : Nat} (hi : i < l.length) (h : q (l.getD i d) = true) (hj : ∀ j, j < i → q (l.getD j d) = false) : (i : Int) = idxOf q l := by
  have : l.findIdx? q = some i := by
    rw [List.findIdx?_eq_some_iff_getElem]
    refine ⟨hi, by simpa [List.getD_eq_getElem?_getD, hi] using h, fun j hji => ?_⟩
    have := hj j hji
    simpa [List.getD_eq_getElem?_getD, Nat.lt_trans hji hi] using this
  simp [idxOf, this]
theorem idxOf_none {α : Type} {q : α → Bool} {l : List α} {d : α} (hj : ∀ j, j < l.length → q (l.getD j d) = false) : -1 = idxOf q l := by
  have : l.findIdx? q = none := by
    rw [List.findIdx?_eq_none_iff]
    intro x hx
    obtain ⟨j, hjl, rfl⟩ := List.mem_iff_getElem.1 hx
    have := hj j hjl
    simpa [List.getD_eq_getElem?_getD, hjl] using this
  simp [idxOf, this]
theorem idxOf_ge {α : Type} {q : α → Bool} {l : List α} : decide (0 ≤ idxOf q l) = l.any q := by
  unfold idxOf
  cases h : l.findIdx? q with
  | none =>
    rw [List.findIdx?_eq_none_iff] at h
    have : l.any q = false := by rw [List.any_eq_false]; intro x hx; simp [h x hx]
    simp [this]
  | some i =>
    rw [List.findIdx?_eq_some_iff_getElem] at h
    obtain ⟨h1, h2, _⟩ := h
    have : l.any q = true := by rw [List.any_eq_true]; exact ⟨_, List.getElem_mem h1, h2⟩
    simp [this]

theorem idx_int (l : List Int) (g : FuncId) (fv : AV) (q : Int → Bool) (hl : l.length ≤ 1000000) (hq : ∀ i, i < l.length → CallS Try.prog g [.int .i64 (l.getD i 0), .pptr [fv] 0] (.bool (q (l.getD i 0)))) :
    CallS Try.prog 104 [sl l, .fn (.func g) [] [.pptr [fv] 0]] (.int .i64 (idxOf q l)) := by
  (refine callS_of_awp (fun w args => Try.call104 ..) Try.func104 rfl (fun w0 m0 wz => ?_); simp only [Try.ntmps104, Try.results104, initT, junks, homeC, hallC, slH, slL, townC, sl, List.toList_toArray, List.cons_append, List.nil_append, List.length_cons, List.length_nil, Nat.reduceAdd, Nat.reduceSub])
  (repeat' (first
    | (refine awp_seqK ?_)
    | (refine kt ?_)
    | (refine And.intro ?_ ?_)
    | ((first | refine awp_region ?_ | refine awp_draw (by kernel_rfl) (by kernel_rfl) ?_ | refine Imp.le2 ?_ | refine awp_label ?_ | refine awp_skip ?_ | refine awp_exit ?_ | refine awp_cd ?_ | refine awp_ret ?_ | refine go_split (fun _h => ?_) (fun _h => ?_)) <;> try simp (maxSteps := 4000000) only [go_sem, seval])
    | (intro _h)
    | (refine awp_block ?_)
    | (refine awp_scope ?_)
    | (refine cond_b (fun _h => ?_) (fun _h => ?_))
    | (show heapOK _ _ = true; kernel_rfl)
    | (show heapOK2 _ _ = true; kernel_rfl)
    | (omega)))
  refine awp_loopJ (fun i : Nat => i ≤ l.length ∧ ∀ j, j < i → q (l.getD j 0) = false) (fun i => ⟨mkT 19 [(0, sl l), (1, .fn (.func g) [] [.pptr [fv] 0]), (6, sl l), (7, .int .i64 l.length), (8, .int .i64 i)], [], []⟩) (fun i => l.length - i) 0 ⟨Nat.zero_le _, by simp⟩ (.le2 ?_) ?_
  · simp (maxSteps := 4000000) only [go_sem, seval]
  · rintro i ⟨hi, hj⟩
    simp (maxSteps := 4000000) only [go_sem, seval]
    have hqi := hq i
    (repeat' (first
    | (refine awp_seqK ?_)
    | (refine kt ?_)
    | (refine And.intro ?_ ?_)
    | ((first | refine awp_region ?_ | refine awp_draw (by kernel_rfl) (by kernel_rfl) ?_ | refine Imp.le2 ?_ | refine awp_label ?_ | refine awp_skip ?_ | refine awp_exit ?_ | refine awp_cd ?_ | refine awp_ret ?_ | refine callK_of (hqi (by omega)) ?_ | refine go_split (fun _h => ?_) (fun _h => ?_)) <;> try simp (maxSteps := 4000000) only [go_sem, seval])
    | (intro _h)
    | (refine awp_block ?_)
    | (refine awp_scope ?_)
    | (refine cond_b (fun _h => ?_) (fun _h => ?_))
    | (show heapOK _ _ = true; kernel_rfl)
    | (show heapOK2 _ _ = true; kernel_rfl)
    | (omega)))
    · exact idxOf_some (by omega) ‹_› hj
    · refine ⟨i + 1, ⟨by omega, fun j hji => ?_⟩, by omega, .le2 ?_⟩
      · rcases Nat.lt_succ_iff_lt_or_eq.1 hji with h | rfl
        · exact hj j h
        · assumption
      · simp (maxSteps := 4000000) only [go_sem, seval]
        omega
    · exact idxOf_none (d := 0) (fun j hjl => hj j (by omega))
theorem has_int (l : List Int) (g : FuncId) (fv : AV) (q : Int → Bool) (hl : l.length ≤ 1000000) (hq : ∀ i, i < l.length → CallS Try.prog g [.int .i64 (l.getD i 0), .pptr [fv] 0] (.bool (q (l.getD i 0)))) :
    CallS Try.prog 85 [sl l, .fn (.func g) [] [.pptr [fv] 0]] (.bool (l.any q)) := by
  rw [← idxOf_ge]
  have h := idx_int l g fv q hl hq
  simp only [sl] at h
  (refine callS_of_awp (fun w args => Try.call85 ..) Try.func85 rfl (fun w0 m0 wz => ?_); simp only [Try.ntmps85, Try.results85, initT, junks, homeC, hallC, slH, slL, townC, sl, List.toList_toArray, List.cons_append, List.nil_append, List.length_cons, List.length_nil, Nat.reduceAdd, Nat.reduceSub])
  (repeat' (first
    | (refine awp_seqK ?_)
    | (refine kt ?_)
    | (refine And.intro ?_ ?_)
    | ((first | refine awp_region ?_ | refine awp_draw (by kernel_rfl) (by kernel_rfl) ?_ | refine Imp.le2 ?_ | refine awp_label ?_ | refine awp_skip ?_ | refine awp_exit ?_ | refine awp_cd ?_ | refine awp_ret ?_ | refine callK_of (h) ?_ | refine go_split (fun _h => ?_) (fun _h => ?_)) <;> try simp (maxSteps := 4000000) only [go_sem, seval])
    | (intro _h)
    | (refine awp_block ?_)
    | (refine awp_scope ?_)
    | (refine cond_b (fun _h => ?_) (fun _h => ?_))
    | (show heapOK _ _ = true; kernel_rfl)
    | (show heapOK2 _ _ = true; kernel_rfl)
    | (omega)))
theorem all1_int (n : Int) (f : FuncId) (q : Bool) (hq : CallS Try.prog f [.int .i64 n] (.bool q)) : CallS Try.prog 86 [.int .i64 n, .pptr [.fn (.func f) [] []] 0] (.bool (!q)) := by
  (refine callS_of_awp (fun w args => Try.call86 ..) Try.func86 rfl (fun w0 m0 wz => ?_); simp only [Try.ntmps86, Try.results86, initT, junks, homeC, hallC, slH, slL, townC, sl, List.toList_toArray, List.cons_append, List.nil_append, List.length_cons, List.length_nil, Nat.reduceAdd, Nat.reduceSub])
  (repeat' (first
    | (refine awp_seqK ?_)
    | (refine kt ?_)
    | (refine And.intro ?_ ?_)
    | ((first | refine awp_region ?_ | refine awp_draw (by kernel_rfl) (by kernel_rfl) ?_ | refine Imp.le2 ?_ | refine awp_label ?_ | refine awp_skip ?_ | refine awp_exit ?_ | refine awp_cd ?_ | refine awp_ret ?_ | refine callK_of (hq) ?_ | refine go_split (fun _h => ?_) (fun _h => ?_)) <;> try simp (maxSteps := 4000000) only [go_sem, seval])
    | (intro _h)
    | (refine awp_block ?_)
    | (refine awp_scope ?_)
    | (refine cond_b (fun _h => ?_) (fun _h => ?_))
    | (show heapOK _ _ = true; kernel_rfl)
    | (show heapOK2 _ _ = true; kernel_rfl)
    | (omega))) <;> simp [*]
theorem all_int (l : List Int) (f : FuncId) (q : Int → Bool) (hl : l.length ≤ 1000000) (hq : ∀ i, i < l.length → CallS Try.prog f [.int .i64 (l.getD i 0)] (.bool (q (l.getD i 0)))) :
    CallS Try.prog 60 [sl l, .fn (.func f) [] []] (.bool (l.all q)) := by
  have hany : l.all q = !l.any (fun x => !q x) := by simp [List.all_eq_not_any_not]
  rw [hany]
  have h := has_int l 86 (.fn (.func f) [] []) (fun x => !q x) hl (fun i hi => all1_int _ _ _ (hq i hi))
  simp only [sl] at h
  (refine callS_of_awp (fun w args => Try.call60 ..) Try.func60 rfl (fun w0 m0 wz => ?_); simp only [Try.ntmps60, Try.results60, initT, junks, homeC, hallC, slH, slL, townC, sl, List.toList_toArray, List.cons_append, List.nil_append, List.length_cons, List.length_nil, Nat.reduceAdd, Nat.reduceSub])
  ((repeat refine awp_seqK ?_); refine awp_region ?_; simp (maxSteps := 4000000) only [go_sem, seval]; refine kt ?_)
  (refine awp_frz 0 rfl (by simp (maxSteps := 4000000) only [go_sem, seval]) (fun _ => rfl) ?_; simp only [frz, fzl, fz2, fz1, fz0, fzH, fzHs, fzO, fzB, List.map_cons, List.map_nil, if_true, if_false, reduceIte, Nat.reduceEqDiff, Nat.reduceAdd, Nat.succ_ne_self, Nat.zero_ne_one, Nat.one_ne_zero, reduceCtorEq, and_self])
  (repeat' (first
    | (refine awp_seqK ?_)
    | (refine kt ?_)
    | (refine And.intro ?_ ?_)
    | ((first | refine awp_region ?_ | refine awp_draw (by kernel_rfl) (by kernel_rfl) ?_ | refine Imp.le2 ?_ | refine awp_label ?_ | refine awp_skip ?_ | refine awp_exit ?_ | refine awp_cd ?_ | refine awp_ret ?_ | refine callK_of (h) ?_ | refine go_split (fun _h => ?_) (fun _h => ?_)) <;> try simp (maxSteps := 4000000) only [go_sem, seval])
    | (intro _h)
    | (refine awp_block ?_)
    | (refine awp_scope ?_)
    | (refine cond_b (fun _h => ?_) (fun _h => ?_))
    | (show heapOK _ _ = true; kernel_rfl)
    | (show heapOK2 _ _ = true; kernel_rfl)
    | (omega))) <;> simp only [*, Bool.not_true, Bool.not_false]

theorem idx_H (l : List Home) (g : FuncId) (fv : AV) (q : Home → Bool) (hl : l.length ≤ 1000000) (hq : ∀ i, i < l.length → CallS Try.prog g [.agg (homeC (l.getD i default)), .pptr [fv] 0] (.bool (q (l.getD i default)))) :
    CallS Try.prog 116 [slH l, .fn (.func g) [] [.pptr [fv] 0]] (.int .i64 (idxOf q l)) := by
  (refine callS_of_awp (fun w args => Try.call116 ..) Try.func116 rfl (fun w0 m0 wz => ?_); simp only [Try.ntmps116, Try.results116, initT, junks, homeC, hallC, slH, slL, townC, sl, List.toList_toArray, List.cons_append, List.nil_append, List.length_cons, List.length_nil, Nat.reduceAdd, Nat.reduceSub])
  (repeat' (first
    | (refine awp_seqK ?_)
    | (refine kt ?_)
    | (refine And.intro ?_ ?_)
    | ((first | refine awp_region ?_ | refine awp_draw (by kernel_rfl) (by kernel_rfl) ?_ | refine Imp.le2 ?_ | refine awp_label ?_ | refine awp_skip ?_ | refine awp_exit ?_ | refine awp_cd ?_ | refine awp_ret ?_ | refine go_split (fun _h => ?_) (fun _h => ?_)) <;> try simp (maxSteps := 4000000) only [go_sem, seval])
    | (intro _h)
    | (refine awp_block ?_)
    | (refine awp_scope ?_)
    | (refine cond_b (fun _h => ?_) (fun _h => ?_))
    | (show heapOK _ _ = true; kernel_rfl)
    | (show heapOK2 _ _ = true; kernel_rfl)
    | (omega)))
  refine awp_loopJ (fun i : Nat => i ≤ l.length ∧ ∀ j, j < i → q (l.getD j default) = false) (fun i => ⟨mkT 19 [(0, slH l), (1, .fn (.func g) [] [.pptr [fv] 0]), (6, slH l), (7, .int .i64 l.length), (8, .int .i64 i)], [], []⟩) (fun i => l.length - i) 0 ⟨Nat.zero_le _, by simp⟩ (.le2 ?_) ?_
  · simp (maxSteps := 4000000) only [go_sem, seval]
  · rintro i ⟨hi, hj⟩
    simp (maxSteps := 4000000) only [go_sem, seval]
    have hqi := hq i
    simp only [homeC] at hqi
    (repeat' (first
    | (refine awp_seqK ?_)
    | (refine kt ?_)
    | (refine And.intro ?_ ?_)
    | ((first | refine awp_region ?_ | refine awp_draw (by kernel_rfl) (by kernel_rfl) ?_ | refine Imp.le2 ?_ | refine awp_label ?_ | refine awp_skip ?_ | refine awp_exit ?_ | refine awp_cd ?_ | refine awp_ret ?_ | refine callK_of (hqi (by omega)) ?_ | refine go_split (fun _h => ?_) (fun _h => ?_)) <;> try simp (maxSteps := 4000000) only [go_sem, seval])
    | (intro _h)
    | (refine awp_block ?_)
    | (refine awp_scope ?_)
    | (refine cond_b (fun _h => ?_) (fun _h => ?_))
    | (show heapOK _ _ = true; kernel_rfl)
    | (show heapOK2 _ _ = true; kernel_rfl)
    | (omega)))
    · exact idxOf_some (by omega) ‹_› hj
    · refine ⟨i + 1, ⟨by omega, fun j hji => ?_⟩, by omega, .le2 ?_⟩
      · rcases Nat.lt_succ_iff_lt_or_eq.1 hji with h | rfl
        · exact hj j h
        · assumption
      · simp (maxSteps := 4000000) only [go_sem, seval]
        omega
    · exact idxOf_none (d := default) (fun j hjl => hj j (by omega))
theorem has_H (l : List Home) (g : FuncId) (fv : AV) (q : Home → Bool) (hl : l.length ≤ 1000000) (hq : ∀ i, i < l.length → CallS Try.prog g [.agg (homeC (l.getD i default)), .pptr [fv] 0] (.bool (q (l.getD i default)))) :
    CallS Try.prog 90 [slH l, .fn (.func g) [] [.pptr [fv] 0]] (.bool (l.any q)) := by
  rw [← idxOf_ge]
  have h := idx_H l g fv q hl hq
  simp only [slH] at h
  (refine callS_of_awp (fun w args => Try.call90 ..) Try.func90 rfl (fun w0 m0 wz => ?_); simp only [Try.ntmps90, Try.results90, initT, junks, homeC, hallC, slH, slL, townC, sl, List.toList_toArray, List.cons_append, List.nil_append, List.length_cons, List.length_nil, Nat.reduceAdd, Nat.reduceSub])
  (repeat' (first
    | (refine awp_seqK ?_)
    | (refine kt ?_)
    | (refine And.intro ?_ ?_)
    | ((first | refine awp_region ?_ | refine awp_draw (by kernel_rfl) (by kernel_rfl) ?_ | refine Imp.le2 ?_ | refine awp_label ?_ | refine awp_skip ?_ | refine awp_exit ?_ | refine awp_cd ?_ | refine awp_ret ?_ | refine callK_of (h) ?_ | refine go_split (fun _h => ?_) (fun _h => ?_)) <;> try simp (maxSteps := 4000000) only [go_sem, seval])
    | (intro _h)
    | (refine awp_block ?_)
    | (refine awp_scope ?_)
    | (refine cond_b (fun _h => ?_) (fun _h => ?_))
    | (show heapOK _ _ = true; kernel_rfl)
    | (show heapOK2 _ _ = true; kernel_rfl)
    | (omega)))
theorem all1_H (n : Home) (f : FuncId) (q : Bool) (hq : CallS Try.prog f [.agg (homeC n)] (.bool q)) : CallS Try.prog 91 [.agg (homeC n), .pptr [.fn (.func f) [] []] 0] (.bool (!q)) := by
  simp only [homeC] at hq
  (refine callS_of_awp (fun w args => Try.call91 ..) Try.func91 rfl (fun w0 m0 wz => ?_); simp only [Try.ntmps91, Try.results91, initT, junks, homeC, hallC, slH, slL, townC, sl, List.toList_toArray, List.cons_append, List.nil_append, List.length_cons, List.length_nil, Nat.reduceAdd, Nat.reduceSub])
  (repeat' (first
    | (refine awp_seqK ?_)
    | (refine kt ?_)
    | (refine And.intro ?_ ?_)
    | ((first | refine awp_region ?_ | refine awp_draw (by kernel_rfl) (by kernel_rfl) ?_ | refine Imp.le2 ?_ | refine awp_label ?_ | refine awp_skip ?_ | refine awp_exit ?_ | refine awp_cd ?_ | refine awp_ret ?_ | refine callK_of (hq) ?_ | refine go_split (fun _h => ?_) (fun _h => ?_)) <;> try simp (maxSteps := 4000000) only [go_sem, seval])
    | (intro _h)
    | (refine awp_block ?_)
    | (refine awp_scope ?_)
    | (refine cond_b (fun _h => ?_) (fun _h => ?_))
    | (show heapOK _ _ = true; kernel_rfl)
    | (show heapOK2 _ _ = true; kernel_rfl)
    | (omega))) <;> simp [*]
theorem all_H (l : List Home) (f : FuncId) (q : Home → Bool) (hl : l.length ≤ 1000000) (hq : ∀ i, i < l.length → CallS Try.prog f [.agg (homeC (l.getD i default))] (.bool (q (l.getD i default)))) :
    CallS Try.prog 70 [slH l, .fn (.func f) [] []] (.bool (l.all q)) := by
  have hany : l.all q = !l.any (fun x => !q x) := by simp [List.all_eq_not_any_not]
  rw [hany]
  have h := has_H l 91 (.fn (.func f) [] []) (fun x => !q x) hl (fun i hi => all1_H _ _ _ (hq i hi))
  simp only [slH] at h
  (refine callS_of_awp (fun w args => Try.call70 ..) Try.func70 rfl (fun w0 m0 wz => ?_); simp only [Try.ntmps70, Try.results70, initT, junks, homeC, hallC, slH, slL, townC, sl, List.toList_toArray, List.cons_append, List.nil_append, List.length_cons, List.length_nil, Nat.reduceAdd, Nat.reduceSub])
  ((repeat refine awp_seqK ?_); refine awp_region ?_; simp (maxSteps := 4000000) only [go_sem, seval]; refine kt ?_)
  (refine awp_frz 0 rfl (by simp (maxSteps := 4000000) only [go_sem, seval]) (fun _ => rfl) ?_; simp only [frz, fzl, fz2, fz1, fz0, fzH, fzHs, fzO, fzB, List.map_cons, List.map_nil, if_true, if_false, reduceIte, Nat.reduceEqDiff, Nat.reduceAdd, Nat.succ_ne_self, Nat.zero_ne_one, Nat.one_ne_zero, reduceCtorEq, and_self])
  (repeat' (first
    | (refine awp_seqK ?_)
    | (refine kt ?_)
    | (refine And.intro ?_ ?_)
    | ((first | refine awp_region ?_ | refine awp_draw (by kernel_rfl) (by kernel_rfl) ?_ | refine Imp.le2 ?_ | refine awp_label ?_ | refine awp_skip ?_ | refine awp_exit ?_ | refine awp_cd ?_ | refine awp_ret ?_ | refine callK_of (h) ?_ | refine go_split (fun _h => ?_) (fun _h => ?_)) <;> try simp (maxSteps := 4000000) only [go_sem, seval])
    | (intro _h)
    | (refine awp_block ?_)
    | (refine awp_scope ?_)
    | (refine cond_b (fun _h => ?_) (fun _h => ?_))
    | (show heapOK _ _ = true; kernel_rfl)
    | (show heapOK2 _ _ = true; kernel_rfl)
    | (omega))) <;> simp only [*, Bool.not_true, Bool.not_false]

theorem idx_L (l : List Hall) (g : FuncId) (fv : AV) (q : Hall → Bool) (hl : l.length ≤ 1000000) (hq : ∀ i, i < l.length → CallS Try.prog g [.agg (hallC (l.getD i default)), .pptr [fv] 0] (.bool (q (l.getD i default)))) :
    CallS Try.prog 117 [slL l, .fn (.func g) [] [.pptr [fv] 0]] (.int .i64 (idxOf q l)) := by
  (refine callS_of_awp (fun w args => Try.call117 ..) Try.func117 rfl (fun w0 m0 wz => ?_); simp only [Try.ntmps117, Try.results117, initT, junks, homeC, hallC, slH, slL, townC, sl, List.toList_toArray, List.cons_append, List.nil_append, List.length_cons, List.length_nil, Nat.reduceAdd, Nat.reduceSub])
  (repeat' (first
    | (refine awp_seqK ?_)
    | (refine kt ?_)
    | (refine And.intro ?_ ?_)
    | ((first | refine awp_region ?_ | refine awp_draw (by kernel_rfl) (by kernel_rfl) ?_ | refine Imp.le2 ?_ | refine awp_label ?_ | refine awp_skip ?_ | refine awp_exit ?_ | refine awp_cd ?_ | refine awp_ret ?_ | refine go_split (fun _h => ?_) (fun _h => ?_)) <;> try simp (maxSteps := 4000000) only [go_sem, seval])
    | (intro _h)
    | (refine awp_block ?_)
    | (refine awp_scope ?_)
    | (refine cond_b (fun _h => ?_) (fun _h => ?_))
    | (show heapOK _ _ = true; kernel_rfl)
    | (show heapOK2 _ _ = true; kernel_rfl)
    | (omega)))
  refine awp_loopJ (fun i : Nat => i ≤ l.length ∧ ∀ j, j < i → q (l.getD j default) = false) (fun i => ⟨mkT 19 [(0, slL l), (1, .fn (.func g) [] [.pptr [fv] 0]), (6, slL l), (7, .int .i64 l.length), (8, .int .i64 i)], [], []⟩) (fun i => l.length - i) 0 ⟨Nat.zero_le _, by simp⟩ (.le2 ?_) ?_
  · simp (maxSteps := 4000000) only [go_sem, seval]
  · rintro i ⟨hi, hj⟩
    simp (maxSteps := 4000000) only [go_sem, seval]
    have hqi := hq i
    simp only [hallC] at hqi
    (repeat' (first
    | (refine awp_seqK ?_)
    | (refine kt ?_)
    | (refine And.intro ?_ ?_)
    | ((first | refine awp_region ?_ | refine awp_draw (by kernel_rfl) (by kernel_rfl) ?_ | refine Imp.le2 ?_ | refine awp_label ?_ | refine awp_skip ?_ | refine awp_exit ?_ | refine awp_cd ?_ | refine awp_ret ?_ | refine callK_of (hqi (by omega)) ?_ | refine go_split (fun _h => ?_) (fun _h => ?_)) <;> try simp (maxSteps := 4000000) only [go_sem, seval])
    | (intro _h)
    | (refine awp_block ?_)
    | (refine awp_scope ?_)
    | (refine cond_b (fun _h => ?_) (fun _h => ?_))
    | (show heapOK _ _ = true; kernel_rfl)
    | (show heapOK2 _ _ = true; kernel_rfl)
    | (omega)))
    · exact idxOf_some (by omega) ‹_› hj
    · refine ⟨i + 1, ⟨by omega, fun j hji => ?_⟩, by omega, .le2 ?_⟩
      · rcases Nat.lt_succ_iff_lt_or_eq.1 hji with h | rfl
        · exact hj j h
        · assumption
      · simp (maxSteps := 4000000) only [go_sem, seval]
        omega
    · exact idxOf_none (d := default) (fun j hjl => hj j (by omega))
theorem has_L (l : List Hall) (g : FuncId) (fv : AV) (q : Hall → Bool) (hl : l.length ≤ 1000000) (hq : ∀ i, i < l.length → CallS Try.prog g [.agg (hallC (l.getD i default)), .pptr [fv] 0] (.bool (q (l.getD i default)))) :
    CallS Try.prog 92 [slL l, .fn (.func g) [] [.pptr [fv] 0]] (.bool (l.any q)) := by
  rw [← idxOf_ge]
  have h := idx_L l g fv q hl hq
  simp only [slL] at h
  (refine callS_of_awp (fun w args => Try.call92 ..) Try.func92 rfl (fun w0 m0 wz => ?_); simp only [Try.ntmps92, Try.results92, initT, junks, homeC, hallC, slH, slL, townC, sl, List.toList_toArray, List.cons_append, List.nil_append, List.length_cons, List.length_nil, Nat.reduceAdd, Nat.reduceSub])
  (repeat' (first
    | (refine awp_seqK ?_)
    | (refine kt ?_)
    | (refine And.intro ?_ ?_)
    | ((first | refine awp_region ?_ | refine awp_draw (by kernel_rfl) (by kernel_rfl) ?_ | refine Imp.le2 ?_ | refine awp_label ?_ | refine awp_skip ?_ | refine awp_exit ?_ | refine awp_cd ?_ | refine awp_ret ?_ | refine callK_of (h) ?_ | refine go_split (fun _h => ?_) (fun _h => ?_)) <;> try simp (maxSteps := 4000000) only [go_sem, seval])
    | (intro _h)
    | (refine awp_block ?_)
    | (refine awp_scope ?_)
    | (refine cond_b (fun _h => ?_) (fun _h => ?_))
    | (show heapOK _ _ = true; kernel_rfl)
    | (show heapOK2 _ _ = true; kernel_rfl)
    | (omega)))
theorem all1_L (n : Hall) (f : FuncId) (q : Bool) (hq : CallS Try.prog f [.agg (hallC n)] (.bool q)) : CallS Try.prog 93 [.agg (hallC n), .pptr [.fn (.func f) [] []] 0] (.bool (!q)) := by
  simp only [hallC] at hq
  (refine callS_of_awp (fun w args => Try.call93 ..) Try.func93 rfl (fun w0 m0 wz => ?_); simp only [Try.ntmps93, Try.results93, initT, junks, homeC, hallC, slH, slL, townC, sl, List.toList_toArray, List.cons_append, List.nil_append, List.length_cons, List.length_nil, Nat.reduceAdd, Nat.reduceSub])
  (repeat' (first
    | (refine awp_seqK ?_)
    | (refine kt ?_)
    | (refine And.intro ?_ ?_)
    | ((first | refine awp_region ?_ | refine awp_draw (by kernel_rfl) (by kernel_rfl) ?_ | refine Imp.le2 ?_ | refine awp_label ?_ | refine awp_skip ?_ | refine awp_exit ?_ | refine awp_cd ?_ | refine awp_ret ?_ | refine callK_of (hq) ?_ | refine go_split (fun _h => ?_) (fun _h => ?_)) <;> try simp (maxSteps := 4000000) only [go_sem, seval])
    | (intro _h)
    | (refine awp_block ?_)
    | (refine awp_scope ?_)
    | (refine cond_b (fun _h => ?_) (fun _h => ?_))
    | (show heapOK _ _ = true; kernel_rfl)
    | (show heapOK2 _ _ = true; kernel_rfl)
    | (omega))) <;> simp [*]
theorem all_L (l : List Hall) (f : FuncId) (q : Hall → Bool) (hl : l.length ≤ 1000000) (hq : ∀ i, i < l.length → CallS Try.prog f [.agg (hallC (l.getD i default))] (.bool (q (l.getD i default)))) :
    CallS Try.prog 72 [slL l, .fn (.func f) [] []] (.bool (l.all q)) := by
  have hany : l.all q = !l.any (fun x => !q x) := by simp [List.all_eq_not_any_not]
  rw [hany]
  have h := has_L l 93 (.fn (.func f) [] []) (fun x => !q x) hl (fun i hi => all1_L _ _ _ (hq i hi))
  simp only [slL] at h
  (refine callS_of_awp (fun w args => Try.call72 ..) Try.func72 rfl (fun w0 m0 wz => ?_); simp only [Try.ntmps72, Try.results72, initT, junks, homeC, hallC, slH, slL, townC, sl, List.toList_toArray, List.cons_append, List.nil_append, List.length_cons, List.length_nil, Nat.reduceAdd, Nat.reduceSub])
  ((repeat refine awp_seqK ?_); refine awp_region ?_; simp (maxSteps := 4000000) only [go_sem, seval]; refine kt ?_)
  (refine awp_frz 0 rfl (by simp (maxSteps := 4000000) only [go_sem, seval]) (fun _ => rfl) ?_; simp only [frz, fzl, fz2, fz1, fz0, fzH, fzHs, fzO, fzB, List.map_cons, List.map_nil, if_true, if_false, reduceIte, Nat.reduceEqDiff, Nat.reduceAdd, Nat.succ_ne_self, Nat.zero_ne_one, Nat.one_ne_zero, reduceCtorEq, and_self])
  (repeat' (first
    | (refine awp_seqK ?_)
    | (refine kt ?_)
    | (refine And.intro ?_ ?_)
    | ((first | refine awp_region ?_ | refine awp_draw (by kernel_rfl) (by kernel_rfl) ?_ | refine Imp.le2 ?_ | refine awp_label ?_ | refine awp_skip ?_ | refine awp_exit ?_ | refine awp_cd ?_ | refine awp_ret ?_ | refine callK_of (h) ?_ | refine go_split (fun _h => ?_) (fun _h => ?_)) <;> try simp (maxSteps := 4000000) only [go_sem, seval])
    | (intro _h)
    | (refine awp_block ?_)
    | (refine awp_scope ?_)
    | (refine cond_b (fun _h => ?_) (fun _h => ?_))
    | (show heapOK _ _ = true; kernel_rfl)
    | (show heapOK2 _ _ = true; kernel_rfl)
    | (omega))) <;> simp only [*, Bool.not_true, Bool.not_false]

theorem allA_home (t : Town) (x : Int) (q : Bool) (hq : CallS Try.prog 65 [.agg (townC t), .int .i64 x] (.bool q)) : SemF Try.prog 86 [.int .i64 x, .ptr 0 0 0] [some (.cells 114 1 0 [.fn (.func 65) [.agg (townC t)] []])] (.bool (!q)) [some (.cells 114 1 0 [.fn (.func 65) [.agg (townC t)] []])] := by
  simp only [townC, slH, slL]
  (refine semF_of_awp (ys := [.bool (!q)]) (fun w args => Try.call86 ..) Try.func86 rfl (fun w0 m0 wz => ?_); simp only [Try.ntmps86, Try.results86, initT, junks, homeC, hallC, slH, slL, townC, sl, List.toList_toArray, List.cons_append, List.nil_append, List.length_cons, List.length_nil, Nat.reduceAdd, Nat.reduceSub])
  (repeat' (first
    | (refine awp_seqK ?_)
    | (refine kt ?_)
    | (refine And.intro ?_ ?_)
    | ((first | refine awp_region ?_ | refine awp_draw (by kernel_rfl) (by kernel_rfl) ?_ | refine Imp.le2 ?_ | refine awp_label ?_ | refine awp_skip ?_ | refine awp_exit ?_ | refine awp_cd ?_ | refine awp_ret ?_ | refine callK_of (hq) ?_ | refine go_split (fun _h => ?_) (fun _h => ?_)) <;> try simp (maxSteps := 4000000) only [go_sem, seval])
    | (intro _h)
    | (refine awp_block ?_)
    | (refine awp_scope ?_)
    | (refine cond_b (fun _h => ?_) (fun _h => ?_))
    | (show heapOK _ _ = true; kernel_rfl)
    | (show heapOK2 _ _ = true; kernel_rfl)
    | (omega))) <;> simp [*]
theorem idxA_home (t : Town) (l : List Int) (q : Int → Bool) (hl : l.length ≤ 1000000) (hq : ∀ i, i < l.length → SemF Try.prog 86 [.int .i64 (l.getD i 0), .ptr 0 0 0] [some (.cells 114 1 0 [.fn (.func 65) [.agg (townC t)] []])] (.bool (q (l.getD i 0))) [some (.cells 114 1 0 [.fn (.func 65) [.agg (townC t)] []])]) :
    SemF Try.prog 104 [sl l, .fn (.func 86) [] [.ptr 0 0 0]] [some (.cells 114 1 0 [.fn (.func 65) [.agg (townC t)] []])] (.int .i64 (idxOf q l)) [some (.cells 114 1 0 [.fn (.func 65) [.agg (townC t)] []])] := by
  simp only [townC, slH, slL]
  simp only [townC, slH, slL] at hq
  (refine semF_of_awp (ys := [.int .i64 (idxOf q l)]) (fun w args => Try.call104 ..) Try.func104 rfl (fun w0 m0 wz => ?_); simp only [Try.ntmps104, Try.results104, initT, junks, homeC, hallC, slH, slL, townC, sl, List.toList_toArray, List.cons_append, List.nil_append, List.length_cons, List.length_nil, Nat.reduceAdd, Nat.reduceSub])
  (repeat' (first
    | (refine awp_seqK ?_)
    | (refine kt ?_)
    | (refine And.intro ?_ ?_)
    | ((first | refine awp_region ?_ | refine awp_draw (by kernel_rfl) (by kernel_rfl) ?_ | refine Imp.le2 ?_ | refine awp_label ?_ | refine awp_skip ?_ | refine awp_exit ?_ | refine awp_cd ?_ | refine awp_ret ?_ | refine go_split (fun _h => ?_) (fun _h => ?_)) <;> try simp (maxSteps := 4000000) only [go_sem, seval])
    | (intro _h)
    | (refine awp_block ?_)
    | (refine awp_scope ?_)
    | (refine cond_b (fun _h => ?_) (fun _h => ?_))
    | (show heapOK _ _ = true; kernel_rfl)
    | (show heapOK2 _ _ = true; kernel_rfl)
    | (omega)))
  refine awp_loopJ (fun i : Nat => i ≤ l.length ∧ ∀ j, j < i → q (l.getD j 0) = false) (fun i => ⟨mkT 19 [(0, sl l), (1, .fn (.func 86) [] [.ptr 0 0 0]), (6, sl l), (7, .int .i64 l.length), (8, .int .i64 i)], [some (.cells 114 1 0 [.fn (.func 65) [.agg (townC t)] []])], []⟩) (fun i => l.length - i) 0 ⟨Nat.zero_le _, by simp⟩ (.le2 ?_) ?_
  · simp (maxSteps := 4000000) only [go_sem, seval]
  · rintro i ⟨hi, hj⟩
    simp (maxSteps := 4000000) only [go_sem, seval]
    have hqi := hq i
    (repeat' (first
    | (refine awp_ownN 5 rfl ?_; simp (maxSteps := 4000000) only [go_sem, seval, List.take_succ_cons, List.take_zero]; (repeat refine And.intro (by omega) ?_); refine own_go (hqi (by omega)) [0] rfl ?_ ?_ rfl ?_ <;> try simp (maxSteps := 4000000) only [go_sem, seval, Nat.lt_irrefl] <;> try decide)
    | (refine awp_seqK ?_)
    | (refine kt ?_)
    | (refine And.intro ?_ ?_)
    | ((first | refine awp_region ?_ | refine awp_draw (by kernel_rfl) (by kernel_rfl) ?_ | refine Imp.le2 ?_ | refine awp_label ?_ | refine awp_skip ?_ | refine awp_exit ?_ | refine awp_cd ?_ | refine awp_ret ?_ | refine go_split (fun _h => ?_) (fun _h => ?_)) <;> try simp (maxSteps := 4000000) only [go_sem, seval])
    | (intro _h)
    | (refine awp_block ?_)
    | (refine awp_scope ?_)
    | (refine cond_b (fun _h => ?_) (fun _h => ?_))
    | (show heapOK _ _ = true; kernel_rfl)
    | (show heapOK2 _ _ = true; kernel_rfl)
    | (omega)))
    · exact idxOf_some (by omega) ‹_› hj
    · refine ⟨i + 1, ⟨by omega, fun j hji => ?_⟩, by omega, .le2 ?_⟩
      · rcases Nat.lt_succ_iff_lt_or_eq.1 hji with h | rfl
        · exact hj j h
        · assumption
      · simp (maxSteps := 4000000) only [go_sem, seval]
        omega
    · exact idxOf_none (d := 0) (fun j hjl => hj j (by omega))
theorem hasA_home (t : Town) (l : List Int) (q : Int → Bool) (hl : l.length ≤ 1000000) (hq : ∀ i, i < l.length → SemF Try.prog 86 [.int .i64 (l.getD i 0), .ptr 0 0 0] [some (.cells 114 1 0 [.fn (.func 65) [.agg (townC t)] []])] (.bool (q (l.getD i 0))) [some (.cells 114 1 0 [.fn (.func 65) [.agg (townC t)] []])]) :
    SemF Try.prog 85 [sl l, .fn (.func 86) [] [.ptr 0 0 0]] [some (.cells 114 1 0 [.fn (.func 65) [.agg (townC t)] []])] (.bool (l.any q)) [some (.cells 114 1 0 [.fn (.func 65) [.agg (townC t)] []])] := by
  have h := idxA_home (hq := hq) (hl := hl)
  rw [← idxOf_ge]
  simp only [townC, slH, slL]
  simp only [sl, townC, slH, slL] at h
  (refine semF_of_awp (ys := [.bool (decide (0 ≤ idxOf q l))]) (fun w args => Try.call85 ..) Try.func85 rfl (fun w0 m0 wz => ?_); simp only [Try.ntmps85, Try.results85, initT, junks, homeC, hallC, slH, slL, townC, sl, List.toList_toArray, List.cons_append, List.nil_append, List.length_cons, List.length_nil, Nat.reduceAdd, Nat.reduceSub])
  (repeat' (first
    | (refine awp_ownN 2 rfl ?_; simp (maxSteps := 4000000) only [go_sem, seval, List.take_succ_cons, List.take_zero]; (repeat refine And.intro (by omega) ?_); refine own_go (h) [0] rfl ?_ ?_ rfl ?_ <;> try simp (maxSteps := 4000000) only [go_sem, seval, Nat.lt_irrefl] <;> try decide)
    | (refine awp_seqK ?_)
    | (refine kt ?_)
    | (refine And.intro ?_ ?_)
    | ((first | refine awp_region ?_ | refine awp_draw (by kernel_rfl) (by kernel_rfl) ?_ | refine Imp.le2 ?_ | refine awp_label ?_ | refine awp_skip ?_ | refine awp_exit ?_ | refine awp_cd ?_ | refine awp_ret ?_ | refine go_split (fun _h => ?_) (fun _h => ?_)) <;> try simp (maxSteps := 4000000) only [go_sem, seval])
    | (intro _h)
    | (refine awp_block ?_)
    | (refine awp_scope ?_)
    | (refine cond_b (fun _h => ?_) (fun _h => ?_))
    | (show heapOK _ _ = true; kernel_rfl)
    | (show heapOK2 _ _ = true; kernel_rfl)
    | (omega))) <;> simp [*]
theorem allB_home (t : Town) (l : List Int) (q : Int → Bool) (hl : l.length ≤ 1000000) (hq : ∀ i, i < l.length → CallS Try.prog 65 [.agg (townC t), .int .i64 (l.getD i 0)] (.bool (q (l.getD i 0)))) :
    SemF Try.prog 60 [sl l, .fn (.func 65) [.agg (townC t)] []] [] (.bool (l.all q)) [] := by
  have hany : l.all q = !l.any (fun x => !q x) := by simp [List.all_eq_not_any_not]
  rw [hany]
  have h := hasA_home (l := l) (q := fun x => !q x) (hl := hl) (hq := fun i hi => allA_home (x := l.getD i 0) (q := q (l.getD i 0)) (hq := hq i hi))
  simp only [sl, townC, slH, slL] at h ⊢
  (refine semF_of_awp (ys := [.bool (!l.any (fun x => !q x))]) (fun w args => Try.call60 ..) Try.func60 rfl (fun w0 m0 wz => ?_); simp only [Try.ntmps60, Try.results60, initT, junks, homeC, hallC, slH, slL, townC, sl, List.toList_toArray, List.cons_append, List.nil_append, List.length_cons, List.length_nil, Nat.reduceAdd, Nat.reduceSub])
  (repeat' (first
    | (refine awp_ownN 2 rfl ?_; simp (maxSteps := 4000000) only [go_sem, seval, List.take_succ_cons, List.take_zero]; (repeat refine And.intro (by omega) ?_); refine own_go (h) [0] rfl ?_ ?_ rfl ?_ <;> try simp (maxSteps := 4000000) only [go_sem, seval, Nat.lt_irrefl] <;> try decide)
    | (refine awp_seqK ?_)
    | (refine kt ?_)
    | (refine And.intro ?_ ?_)
    | ((first | refine awp_region ?_ | refine awp_draw (by kernel_rfl) (by kernel_rfl) ?_ | refine Imp.le2 ?_ | refine awp_label ?_ | refine awp_skip ?_ | refine awp_exit ?_ | refine awp_cd ?_ | refine awp_ret ?_ | refine go_split (fun _h => ?_) (fun _h => ?_)) <;> try simp (maxSteps := 4000000) only [go_sem, seval])
    | (intro _h)
    | (refine awp_block ?_)
    | (refine awp_scope ?_)
    | (refine cond_b (fun _h => ?_) (fun _h => ?_))
    | (show heapOK _ _ = true; kernel_rfl)
    | (show heapOK2 _ _ = true; kernel_rfl)
    | (omega))) <;> simp only [*, Bool.not_true, Bool.not_false]

theorem allA_has (lo hi : Int) (x : Int) (q : Bool) (hq : CallS Try.prog 66 [.agg [.int .i64 lo, .int .i64 hi], .int .i64 x] (.bool q)) : SemF Try.prog 86 [.int .i64 x, .ptr 0 0 0] [some (.cells 114 1 0 [.fn (.func 66) [.agg [.int .i64 lo, .int .i64 hi]] []])] (.bool (!q)) [some (.cells 114 1 0 [.fn (.func 66) [.agg [.int .i64 lo, .int .i64 hi]] []])] := by
  (refine semF_of_awp (ys := [.bool (!q)]) (fun w args => Try.call86 ..) Try.func86 rfl (fun w0 m0 wz => ?_); simp only [Try.ntmps86, Try.results86, initT, junks, homeC, hallC, slH, slL, townC, sl, List.toList_toArray, List.cons_append, List.nil_append, List.length_cons, List.length_nil, Nat.reduceAdd, Nat.reduceSub])
  (repeat' (first
    | (refine awp_seqK ?_)
    | (refine kt ?_)
    | (refine And.intro ?_ ?_)
    | ((first | refine awp_region ?_ | refine awp_draw (by kernel_rfl) (by kernel_rfl) ?_ | refine Imp.le2 ?_ | refine awp_label ?_ | refine awp_skip ?_ | refine awp_exit ?_ | refine awp_cd ?_ | refine awp_ret ?_ | refine callK_of (hq) ?_ | refine go_split (fun _h => ?_) (fun _h => ?_)) <;> try simp (maxSteps := 4000000) only [go_sem, seval])
    | (intro _h)
    | (refine awp_block ?_)
    | (refine awp_scope ?_)
    | (refine cond_b (fun _h => ?_) (fun _h => ?_))
    | (show heapOK _ _ = true; kernel_rfl)
    | (show heapOK2 _ _ = true; kernel_rfl)
    | (omega))) <;> simp [*]
theorem idxA_has (lo hi : Int) (l : List Int) (q : Int → Bool) (hl : l.length ≤ 1000000) (hq : ∀ i, i < l.length → SemF Try.prog 86 [.int .i64 (l.getD i 0), .ptr 0 0 0] [some (.cells 114 1 0 [.fn (.func 66) [.agg [.int .i64 lo, .int .i64 hi]] []])] (.bool (q (l.getD i 0))) [some (.cells 114 1 0 [.fn (.func 66) [.agg [.int .i64 lo, .int .i64 hi]] []])]) :
    SemF Try.prog 104 [sl l, .fn (.func 86) [] [.ptr 0 0 0]] [some (.cells 114 1 0 [.fn (.func 66) [.agg [.int .i64 lo, .int .i64 hi]] []])] (.int .i64 (idxOf q l)) [some (.cells 114 1 0 [.fn (.func 66) [.agg [.int .i64 lo, .int .i64 hi]] []])] := by
  skip
  (refine semF_of_awp (ys := [.int .i64 (idxOf q l)]) (fun w args => Try.call104 ..) Try.func104 rfl (fun w0 m0 wz => ?_); simp only [Try.ntmps104, Try.results104, initT, junks, homeC, hallC, slH, slL, townC, sl, List.toList_toArray, List.cons_append, List.nil_append, List.length_cons, List.length_nil, Nat.reduceAdd, Nat.reduceSub])
  (repeat' (first
    | (refine awp_seqK ?_)
    | (refine kt ?_)
    | (refine And.intro ?_ ?_)
    | ((first | refine awp_region ?_ | refine awp_draw (by kernel_rfl) (by kernel_rfl) ?_ | refine Imp.le2 ?_ | refine awp_label ?_ | refine awp_skip ?_ | refine awp_exit ?_ | refine awp_cd ?_ | refine awp_ret ?_ | refine go_split (fun _h => ?_) (fun _h => ?_)) <;> try simp (maxSteps := 4000000) only [go_sem, seval])
    | (intro _h)
    | (refine awp_block ?_)
    | (refine awp_scope ?_)
    | (refine cond_b (fun _h => ?_) (fun _h => ?_))
    | (show heapOK _ _ = true; kernel_rfl)
    | (show heapOK2 _ _ = true; kernel_rfl)
    | (omega)))
  refine awp_loopJ (fun i : Nat => i ≤ l.length ∧ ∀ j, j < i → q (l.getD j 0) = false) (fun i => ⟨mkT 19 [(0, sl l), (1, .fn (.func 86) [] [.ptr 0 0 0]), (6, sl l), (7, .int .i64 l.length), (8, .int .i64 i)], [some (.cells 114 1 0 [.fn (.func 66) [.agg [.int .i64 lo, .int .i64 hi]] []])], []⟩) (fun i => l.length - i) 0 ⟨Nat.zero_le _, by simp⟩ (.le2 ?_) ?_
  · simp (maxSteps := 4000000) only [go_sem, seval]
  · rintro i ⟨hi, hj⟩
    simp (maxSteps := 4000000) only [go_sem, seval]
    have hqi := hq i
    (repeat' (first
    | (refine awp_ownN 5 rfl ?_; simp (maxSteps := 4000000) only [go_sem, seval, List.take_succ_cons, List.take_zero]; (repeat refine And.intro (by omega) ?_); refine own_go (hqi (by omega)) [0] rfl ?_ ?_ rfl ?_ <;> try simp (maxSteps := 4000000) only [go_sem, seval, Nat.lt_irrefl] <;> try decide)
    | (refine awp_seqK ?_)
    | (refine kt ?_)
    | (refine And.intro ?_ ?_)
    | ((first | refine awp_region ?_ | refine awp_draw (by kernel_rfl) (by kernel_rfl) ?_ | refine Imp.le2 ?_ | refine awp_label ?_ | refine awp_skip ?_ | refine awp_exit ?_ | refine awp_cd ?_ | refine awp_ret ?_ | refine go_split (fun _h => ?_) (fun _h => ?_)) <;> try simp (maxSteps := 4000000) only [go_sem, seval])
    | (intro _h)
    | (refine awp_block ?_)
    | (refine awp_scope ?_)
    | (refine cond_b (fun _h => ?_) (fun _h => ?_))
    | (show heapOK _ _ = true; kernel_rfl)
    | (show heapOK2 _ _ = true; kernel_rfl)
    | (omega)))
    · exact idxOf_some (by omega) ‹_› hj
    · refine ⟨i + 1, ⟨by omega, fun j hji => ?_⟩, by omega, .le2 ?_⟩
      · rcases Nat.lt_succ_iff_lt_or_eq.1 hji with h | rfl
        · exact hj j h
        · assumption
      · simp (maxSteps := 4000000) only [go_sem, seval]
        omega
    · exact idxOf_none (d := 0) (fun j hjl => hj j (by omega))
theorem hasA_has (lo hi : Int) (l : List Int) (q : Int → Bool) (hl : l.length ≤ 1000000) (hq : ∀ i, i < l.length → SemF Try.prog 86 [.int .i64 (l.getD i 0), .ptr 0 0 0] [some (.cells 114 1 0 [.fn (.func 66) [.agg [.int .i64 lo, .int .i64 hi]] []])] (.bool (q (l.getD i 0))) [some (.cells 114 1 0 [.fn (.func 66) [.agg [.int .i64 lo, .int .i64 hi]] []])]) :
    SemF Try.prog 85 [sl l, .fn (.func 86) [] [.ptr 0 0 0]] [some (.cells 114 1 0 [.fn (.func 66) [.agg [.int .i64 lo, .int .i64 hi]] []])] (.bool (l.any q)) [some (.cells 114 1 0 [.fn (.func 66) [.agg [.int .i64 lo, .int .i64 hi]] []])] := by
  have h := idxA_has (hq := hq) (hl := hl)
  rw [← idxOf_ge]
  simp only [sl] at h
  (refine semF_of_awp (ys := [.bool (decide (0 ≤ idxOf q l))]) (fun w args => Try.call85 ..) Try.func85 rfl (fun w0 m0 wz => ?_); simp only [Try.ntmps85, Try.results85, initT, junks, homeC, hallC, slH, slL, townC, sl, List.toList_toArray, List.cons_append, List.nil_append, List.length_cons, List.length_nil, Nat.reduceAdd, Nat.reduceSub])
  (repeat' (first
    | (refine awp_ownN 2 rfl ?_; simp (maxSteps := 4000000) only [go_sem, seval, List.take_succ_cons, List.take_zero]; (repeat refine And.intro (by omega) ?_); refine own_go (h) [0] rfl ?_ ?_ rfl ?_ <;> try simp (maxSteps := 4000000) only [go_sem, seval, Nat.lt_irrefl] <;> try decide)
    | (refine awp_seqK ?_)
    | (refine kt ?_)
    | (refine And.intro ?_ ?_)
    | ((first | refine awp_region ?_ | refine awp_draw (by kernel_rfl) (by kernel_rfl) ?_ | refine Imp.le2 ?_ | refine awp_label ?_ | refine awp_skip ?_ | refine awp_exit ?_ | refine awp_cd ?_ | refine awp_ret ?_ | refine go_split (fun _h => ?_) (fun _h => ?_)) <;> try simp (maxSteps := 4000000) only [go_sem, seval])
    | (intro _h)
    | (refine awp_block ?_)
    | (refine awp_scope ?_)
    | (refine cond_b (fun _h => ?_) (fun _h => ?_))
    | (show heapOK _ _ = true; kernel_rfl)
    | (show heapOK2 _ _ = true; kernel_rfl)
    | (omega))) <;> simp [*]
theorem allB_has (lo hi : Int) (l : List Int) (q : Int → Bool) (hl : l.length ≤ 1000000) (hq : ∀ i, i < l.length → CallS Try.prog 66 [.agg [.int .i64 lo, .int .i64 hi], .int .i64 (l.getD i 0)] (.bool (q (l.getD i 0)))) :
    SemF Try.prog 60 [sl l, .fn (.func 66) [.agg [.int .i64 lo, .int .i64 hi]] []] [] (.bool (l.all q)) [] := by
  have hany : l.all q = !l.any (fun x => !q x) := by simp [List.all_eq_not_any_not]
  rw [hany]
  have h := hasA_has (l := l) (q := fun x => !q x) (hl := hl) (hq := fun i hi => allA_has (x := l.getD i 0) (q := q (l.getD i 0)) (hq := hq i hi))
  simp only [sl] at h ⊢
  (refine semF_of_awp (ys := [.bool (!l.any (fun x => !q x))]) (fun w args => Try.call60 ..) Try.func60 rfl (fun w0 m0 wz => ?_); simp only [Try.ntmps60, Try.results60, initT, junks, homeC, hallC, slH, slL, townC, sl, List.toList_toArray, List.cons_append, List.nil_append, List.length_cons, List.length_nil, Nat.reduceAdd, Nat.reduceSub])
  (repeat' (first
    | (refine awp_ownN 2 rfl ?_; simp (maxSteps := 4000000) only [go_sem, seval, List.take_succ_cons, List.take_zero]; (repeat refine And.intro (by omega) ?_); refine own_go (h) [0] rfl ?_ ?_ rfl ?_ <;> try simp (maxSteps := 4000000) only [go_sem, seval, Nat.lt_irrefl] <;> try decide)
    | (refine awp_seqK ?_)
    | (refine kt ?_)
    | (refine And.intro ?_ ?_)
    | ((first | refine awp_region ?_ | refine awp_draw (by kernel_rfl) (by kernel_rfl) ?_ | refine Imp.le2 ?_ | refine awp_label ?_ | refine awp_skip ?_ | refine awp_exit ?_ | refine awp_cd ?_ | refine awp_ret ?_ | refine go_split (fun _h => ?_) (fun _h => ?_)) <;> try simp (maxSteps := 4000000) only [go_sem, seval])
    | (intro _h)
    | (refine awp_block ?_)
    | (refine awp_scope ?_)
    | (refine cond_b (fun _h => ?_) (fun _h => ?_))
    | (show heapOK _ _ = true; kernel_rfl)
    | (show heapOK2 _ _ = true; kernel_rfl)
    | (omega))) <;> simp only [*, Bool.not_true, Bool.not_false]

/-- The error of a town. -/
def faultT (t : Town) : Int :=
  if 8 < t.homes.length ∨ 3 < t.halls.length then 3
  else if (t.homes.length = 0 ∨ ¬ (1 ≤ t.seats ∧ t.seats ≤ 200)) ∨ ¬ (0 ≤ t.clo ∧ t.clo ≤ t.chi ∧ t.chi ≤ 60) ∨ t.homes.all homeB = false ∨ t.halls.all hallB = false then 1 else 0
def townOK (t : Town) : Prop := t.homes.length ≤ 1000000 ∧ t.halls.length ≤ 1000000
theorem check_c (t : Town) (ht : townOK t) : CallS Try.prog 49 [.agg (townC t)] (.int .i64 (faultT t)) := by
  have h1 := all_H t.homes 71 homeB ht.1 (fun i hi => homeV_c _)
  have h2 := all_L t.halls 73 hallB ht.2 (fun i hi => hallV_c _)
  obtain ⟨hl1, hl2⟩ := ht
  simp only [slH, slL] at h1 h2
  unfold faultT
  simp only [townC, slH, slL]
  (refine callS_of_awp (fun w args => Try.call49 ..) Try.func49 rfl (fun w0 m0 wz => ?_); simp only [Try.ntmps49, Try.results49, initT, junks, homeC, hallC, slH, slL, townC, sl, List.toList_toArray, List.cons_append, List.nil_append, List.length_cons, List.length_nil, Nat.reduceAdd, Nat.reduceSub])
  (repeat' (first
    | (refine awp_seqK ?_)
    | (refine kt ?_)
    | (refine And.intro ?_ ?_)
    | ((first | refine awp_region ?_ | refine awp_draw (by kernel_rfl) (by kernel_rfl) ?_ | refine Imp.le2 ?_ | refine awp_label ?_ | refine awp_skip ?_ | refine awp_exit ?_ | refine awp_cd ?_ | refine awp_ret ?_ | refine callK_of (within_c _ _ _) ?_ | refine callK_of (upto_c _ _ _) ?_ | refine callK_of (h1) ?_ | refine callK_of (h2) ?_ | refine go_split (fun _h => ?_) (fun _h => ?_)) <;> try simp (maxSteps := 4000000) only [go_sem, seval])
    | (intro _h)
    | (refine awp_block ?_)
    | (refine awp_scope ?_)
    | (refine cond_b (fun _h => ?_) (fun _h => ?_))
    | (show heapOK _ _ = true; kernel_rfl)
    | (show heapOK2 _ _ = true; kernel_rfl)
    | (omega)))
  all_goals first
    | (rw [if_pos (by omega)])
    | (rw [if_neg (by omega), if_pos (by first | (left; omega) | (right; left; omega) | (right; right; left; assumption) | (right; right; right; assumption))])
    | (rw [if_neg (by omega), if_neg (by rintro (h | h | h | h) <;> first | omega | (simp only [*, reduceCtorEq] at h))])
end Go.Am

/- Contracts of the away functions: the latest minutes, by when; the reference of them; the town for the program. -/
namespace Go.Am
open Go.RowKit Go.Proofs
attribute [local irreducible] AWP CallS Kt goK CallK stepK evOps SemF SemY Imp
set_option maxRecDepth 4000
set_option linter.unusedSimpArgs false
set_option linter.unusedVariables false
set_option maxHeartbeats 800000

/-- Bits of one that another one has not. -/
def andn (a b : Int) : Int := IntKind.u8.wrap (BitVec.ofInt IntKind.u8.bits a &&& ~~~ BitVec.ofInt IntKind.u8.bits b).toNat
theorem bin_andn {P : Program} {t : TypeId} {a b : Int} {K : AV → Prop} : binK P .andNot t (.int .u8 a) (.int .u8 b) K = K (.int .u8 (andn a b)) := by simp [binK, binInt, bits, andn]
attribute [go_sem] bin_andn
theorem ld_H45 {l : List Home} {i : Nat} {K : AV → Prop} : loadK Try.prog 45 (recs homeC l) (i * 6) K = (i < l.length ∧ K (.agg (homeC (l.getD i default)))) := ld_recs tagg45 tsz45 (fun _ => rfl) (by omega)
theorem ld_L56 {l : List Hall} {i : Nat} {K : AV → Prop} : loadK Try.prog 56 (recs hallC l) (i * 3) K = (i < l.length ∧ K (.agg (hallC (l.getD i default)))) := ld_recs tagg56 tsz56 (fun _ => rfl) (by omega)
attribute [go_sem ↓] ld_H45 ld_L56

structure HomeOK (h : Home) : Prop where
  people : 1 ≤ h.people ∧ h.people ≤ 200
  prep : 0 ≤ h.lo ∧ h.lo ≤ h.hi ∧ h.hi ≤ 1000
  walk : 0 ≤ h.walk ∧ h.walk ≤ 1000
  gone : 0 ≤ h.gone ∧ h.gone ≤ 10000
structure HallOK (l : Hall) : Prop where
  room : 0 ≤ l.room ∧ l.room ≤ 2000
  drive : 0 ≤ l.drive ∧ l.drive ≤ 1000
theorem homeB_ok {h : Home} (e : homeB h = true) : HomeOK h := by
  have := of_decide_eq_true e
  exact ⟨this.1, this.2.1, this.2.2.1, this.2.2.2⟩
theorem hallB_ok {h : Hall} (e : hallB h = true) : HallOK h := by
  have := of_decide_eq_true e
  exact ⟨this.1, this.2⟩
structure TownOK (t : Town) : Prop where
  homes : 1 ≤ t.homes.length ∧ t.homes.length ≤ 8
  halls : t.halls.length ≤ 3
  seats : 1 ≤ t.seats ∧ t.seats ≤ 200
  call : 0 ≤ t.clo ∧ t.clo ≤ t.chi ∧ t.chi ≤ 60
  home : ∀ i, i < t.homes.length → HomeOK (t.homes.getD i default)
  hall : ∀ i, i < t.halls.length → HallOK (t.halls.getD i default)
theorem faultT_zero {t : Town} (h : faultT t = 0) : TownOK t := by
  unfold faultT at h
  split at h
  · omega
  · split at h
    · omega
    · rename_i h1 h2
      simp only [not_or, Bool.not_eq_false, Classical.not_not] at h2
      obtain ⟨⟨a, b⟩, c, d, e⟩ := h2
      refine ⟨by omega, by omega, b, c, fun i hi => homeB_ok ?_, fun i hi => hallB_ok ?_⟩
      · rw [List.all_eq_true] at d
        rw [List.getD_eq_getElem?_getD, List.getElem?_eq_getElem hi]
        exact d _ (List.getElem_mem hi)
      · rw [List.all_eq_true] at e
        rw [List.getD_eq_getElem?_getD, List.getElem?_eq_getElem hi]
        exact e _ (List.getElem_mem hi)
theorem TownOK.ok {t : Town} (h : TownOK t) : townOK t := ⟨by have := h.homes; omega, by have := h.halls; omega⟩
def worstN (t : Town) (h : Home) : Int := t.homes.length * t.chi + h.hi + h.walk
def worstL (t : Town) : List Int := t.homes.map (worstN t)
theorem worstL_length {t : Town} : (worstL t).length = t.homes.length := by simp [worstL]
theorem take_snoc {α : Type} {l : List α} {d : α} {k : Nat} (h : k < l.length) : l.take (k + 1) = l.take k ++ [l.getD k d] := by
  rw [List.take_succ_eq_append_getElem h]; simp [List.getD_eq_getElem?_getD, h]
theorem mul_bd {a b A B : Int} (h1 : 0 ≤ a) (h2 : a ≤ A) (h3 : 0 ≤ b) (h4 : b ≤ B) : 0 ≤ a * b ∧ a * b ≤ A * B :=
  ⟨Int.mul_nonneg h1 h3, Int.mul_le_mul h2 h4 h3 (by omega)⟩
theorem worst_c (t : Town) (ht : TownOK t) : CallS Try.prog 56 [.agg (townC t)] (sl (worstL t)) := by
  obtain ⟨hh1, hh2⟩ := ht.homes
  have hc := ht.call
  have hm := mul_bd (a := t.homes.length) (A := 8) (b := t.chi) (B := 60) (by omega) (by omega) (by omega) (by omega)
  (refine callS_of_awp (fun w args => Try.call56 ..) Try.func56 rfl (fun w0 m0 wz => ?_); simp only [Try.ntmps56, Try.results56, initT, junks, homeC, hallC, slH, slL, townC, sl, List.toList_toArray, List.cons_append, List.nil_append, List.length_cons, List.length_nil, Nat.reduceAdd, Nat.reduceSub])
  (repeat' (first
    | (refine awp_seqK ?_)
    | (refine kt ?_)
    | (refine And.intro ?_ ?_)
    | ((first | refine awp_region ?_ | refine awp_draw (by kernel_rfl) (by kernel_rfl) ?_ | refine Imp.le2 ?_ | refine awp_label ?_ | refine awp_skip ?_ | refine awp_exit ?_ | refine awp_cd ?_ | refine awp_ret ?_ | refine go_split (fun _h => ?_) (fun _h => ?_)) <;> try simp (maxSteps := 4000000) only [go_sem, seval])
    | (intro _h)
    | (refine awp_block ?_)
    | (refine awp_scope ?_)
    | (refine cond_b (fun _h => ?_) (fun _h => ?_))
    | (show heapOK _ _ = true; kernel_rfl)
    | (show heapOK2 _ _ = true; kernel_rfl)
    | (omega)))
  (refine awp_adT 2 3 1 rfl ?_; simp only [adT, lset, hset, List.length_cons, List.length_nil, Nat.reduceAdd])
  refine awp_loopN t.homes.length (fun k => ⟨mkT 31 [(1, .ptr 0 0 0), (2, .osl 1 k 0 k), (6, slH t.homes), (7, .int .i64 t.homes.length), (8, .int .i64 k)], [some (.cells 40 1 0 (townC t)), some (.cells 3 1 k (ints ((worstL t).take k)))], []⟩) (.le2 ?_) ?_
  · simp only [townC, slH, slL]; simp (maxSteps := 4000000) only [go_sem, seval]
    rfl
  · intro k hk
    have hlt : ((worstL t).take k).length = k := by simp [worstL_length]; omega
    have hho := ht.home k
    have hsn : k < t.homes.length → ints ((worstL t).take k) ++ [.int .i64 (t.homes.length * t.chi + (t.homes.getD k default).hi + (t.homes.getD k default).walk)] = ints ((worstL t).take (k + 1)) := fun h => by
      rw [take_snoc (d := 0) (by rw [worstL_length]; exact h), ints_append]
      simp [worstL, ints, worstN, List.getD_eq_getElem?_getD, h]
    simp only [townC, slH, slL]; simp (maxSteps := 4000000) only [go_sem, seval, hlt]
    by_cases hk1 : k < t.homes.length
    · obtain ⟨_, hp, hw, _⟩ := hho hk1
      have hs1 := hsn hk1
      (repeat' (first
    | ((omega))
    | (refine awp_seqK ?_)
    | (refine kt ?_)
    | (refine And.intro ?_ ?_)
    | ((first | refine awp_region ?_ | refine awp_draw (by kernel_rfl) (by kernel_rfl) ?_ | refine Imp.le2 ?_ | refine awp_label ?_ | refine awp_skip ?_ | refine awp_exit ?_ | refine awp_cd ?_ | refine awp_ret ?_ | refine go_split (fun _h => ?_) (fun _h => ?_)) <;> try simp (maxSteps := 4000000) only [go_sem, seval, hlt, hs1])
    | (intro _h)
    | (refine awp_block ?_)
    | (refine awp_scope ?_)
    | (refine cond_b (fun _h => ?_) (fun _h => ?_))
    | (show heapOK _ _ = true; kernel_rfl)
    | (show heapOK2 _ _ = true; kernel_rfl)
    | (omega)))
    · have : k = t.homes.length := by omega
      subst this
      (repeat' (first
    | ((omega))
    | (refine awp_seqK ?_)
    | (refine kt ?_)
    | (refine And.intro ?_ ?_)
    | ((first | refine awp_region ?_ | refine awp_draw (by kernel_rfl) (by kernel_rfl) ?_ | refine Imp.le2 ?_ | refine awp_label ?_ | refine awp_skip ?_ | refine awp_exit ?_ | refine awp_cd ?_ | refine awp_ret ?_ | refine go_split (fun _h => ?_) (fun _h => ?_)) <;> try simp (maxSteps := 4000000) only [go_sem, seval, hlt])
    | (intro _h)
    | (refine awp_block ?_)
    | (refine awp_scope ?_)
    | (refine cond_b (fun _h => ?_) (fun _h => ?_))
    | (show heapOK _ _ = true; kernel_rfl)
    | (show heapOK2 _ _ = true; kernel_rfl)
    | (omega)))
      all_goals simp [worstL_length, List.take_of_length_le]
theorem Worst_c (t : Town) (hb : townOK t) : CallS Try.prog 22 [.agg (townC t)] (.tup [if faultT t = 0 then sl (worstL t) else .nils, .int .i64 (faultT t)]) := by
  have hch := check_c t hb
  by_cases h0 : faultT t = 0
  · have hw := worst_c t (faultT_zero h0)
    have e0 : (faultT t = 0) = True := eq_true h0
    rw [if_pos h0]
    simp only [townC, slH, slL, sl, h0] at hch hw ⊢
    (refine callS_of_awp (fun w args => Try.call22 ..) Try.func22 rfl (fun w0 m0 wz => ?_); simp only [Try.ntmps22, Try.results22, initT, junks, homeC, hallC, slH, slL, townC, sl, List.toList_toArray, List.cons_append, List.nil_append, List.length_cons, List.length_nil, Nat.reduceAdd, Nat.reduceSub])
    (repeat' (first
    | (refine awp_seqK ?_)
    | (refine kt ?_)
    | (refine And.intro ?_ ?_)
    | ((first | refine awp_region ?_ | refine awp_draw (by kernel_rfl) (by kernel_rfl) ?_ | refine Imp.le2 ?_ | refine awp_label ?_ | refine awp_skip ?_ | refine awp_exit ?_ | refine awp_cd ?_ | refine awp_ret ?_ | refine callK_of (hch) ?_ | refine callK_of (hw) ?_ | refine go_split (fun _h => ?_) (fun _h => ?_)) <;> try simp (maxSteps := 4000000) only [go_sem, seval, e0, decide_true])
    | (intro _h)
    | (refine awp_block ?_)
    | (refine awp_scope ?_)
    | (refine cond_b (fun _h => ?_) (fun _h => ?_))
    | (show heapOK _ _ = true; kernel_rfl)
    | (show heapOK2 _ _ = true; kernel_rfl)
    | (omega)))
  · have e0 : (faultT t = 0) = False := eq_false h0
    rw [if_neg h0]
    simp only [townC, slH, slL, sl] at hch ⊢
    (refine callS_of_awp (fun w args => Try.call22 ..) Try.func22 rfl (fun w0 m0 wz => ?_); simp only [Try.ntmps22, Try.results22, initT, junks, homeC, hallC, slH, slL, townC, sl, List.toList_toArray, List.cons_append, List.nil_append, List.length_cons, List.length_nil, Nat.reduceAdd, Nat.reduceSub])
    (repeat' (first
    | (refine awp_seqK ?_)
    | (refine kt ?_)
    | (refine And.intro ?_ ?_)
    | ((first | refine awp_region ?_ | refine awp_draw (by kernel_rfl) (by kernel_rfl) ?_ | refine Imp.le2 ?_ | refine awp_label ?_ | refine awp_skip ?_ | refine awp_exit ?_ | refine awp_cd ?_ | refine awp_ret ?_ | refine callK_of (hch) ?_ | refine go_split (fun _h => ?_) (fun _h => ?_)) <;> try simp (maxSteps := 4000000) only [go_sem, seval, e0, decide_false])
    | (intro _h)
    | (refine awp_block ?_)
    | (refine awp_scope ?_)
    | (refine cond_b (fun _h => ?_) (fun _h => ?_))
    | (show heapOK _ _ = true; kernel_rfl)
    | (show heapOK2 _ _ = true; kernel_rfl)
    | (omega)))
theorem CheckTown_c (t : Town) (hb : townOK t) : CallS Try.prog 39 [.agg (townC t)] (.int .i64 (faultT t)) := by
  have hch := check_c t hb
  simp only [townC, slH, slL] at hch
  (refine callS_of_awp (fun w args => Try.call39 ..) Try.func39 rfl (fun w0 m0 wz => ?_); simp only [Try.ntmps39, Try.results39, initT, junks, homeC, hallC, slH, slL, townC, sl, List.toList_toArray, List.cons_append, List.nil_append, List.length_cons, List.length_nil, Nat.reduceAdd, Nat.reduceSub])
  (repeat' (first
    | (refine awp_seqK ?_)
    | (refine kt ?_)
    | (refine And.intro ?_ ?_)
    | ((first | refine awp_region ?_ | refine awp_draw (by kernel_rfl) (by kernel_rfl) ?_ | refine Imp.le2 ?_ | refine awp_label ?_ | refine awp_skip ?_ | refine awp_exit ?_ | refine awp_cd ?_ | refine awp_ret ?_ | refine callK_of (hch) ?_ | refine go_split (fun _h => ?_) (fun _h => ?_)) <;> try simp (maxSteps := 4000000) only [go_sem, seval])
    | (intro _h)
    | (refine awp_block ?_)
    | (refine awp_scope ?_)
    | (refine cond_b (fun _h => ?_) (fun _h => ?_))
    | (show heapOK _ _ = true; kernel_rfl)
    | (show heapOK2 _ _ = true; kernel_rfl)
    | (omega)))
theorem taken_c (h : Home) (l : Hall) : CallS Try.prog 103 [.agg (homeC h), .agg (hallC l)] (.bool (decide (andn h.pets l.pets = 0))) := by
  (refine callS_of_awp (fun w args => Try.call103 ..) Try.func103 rfl (fun w0 m0 wz => ?_); simp only [Try.ntmps103, Try.results103, initT, junks, homeC, hallC, slH, slL, townC, sl, List.toList_toArray, List.cons_append, List.nil_append, List.length_cons, List.length_nil, Nat.reduceAdd, Nat.reduceSub])
  (repeat' (first
    | (refine awp_seqK ?_)
    | (refine kt ?_)
    | (refine And.intro ?_ ?_)
    | ((first | refine awp_region ?_ | refine awp_draw (by kernel_rfl) (by kernel_rfl) ?_ | refine Imp.le2 ?_ | refine awp_label ?_ | refine awp_skip ?_ | refine awp_exit ?_ | refine awp_cd ?_ | refine awp_ret ?_ | refine go_split (fun _h => ?_) (fun _h => ?_)) <;> try simp (maxSteps := 4000000) only [go_sem, seval])
    | (intro _h)
    | (refine awp_block ?_)
    | (refine awp_scope ?_)
    | (refine cond_b (fun _h => ?_) (fun _h => ?_))
    | (show heapOK _ _ = true; kernel_rfl)
    | (show heapOK2 _ _ = true; kernel_rfl)
    | (omega)))
/-- A hall that a home may go to. -/
def fitB (h : Home) (l : Hall) : Prop := andn h.pets l.pets = 0 ∧ h.people ≤ l.room
instance (h : Home) (l : Hall) : Decidable (fitB h l) := inferInstanceAs (Decidable (_ ∧ _))
def byN (h : Home) (ls : List Hall) : Nat → Int
  | 0 => -1
  | k + 1 => if fitB h (ls.getD k default) then max (byN h ls k) (h.gone - (ls.getD k default).drive - h.hi - h.walk) else byN h ls k
def byT (t : Town) (h : Home) : Int := byN h t.halls t.halls.length
theorem byN_bd {h : Home} {ls : List Hall} (hh : HomeOK h) : ∀ k, (∀ i, i < k → HallOK (ls.getD i default)) → -1 ≤ byN h ls k ∧ byN h ls k ≤ 10000
  | 0, _ => by simp [byN]
  | k + 1, hl => by
    have := byN_bd (ls := ls) hh k (fun i hi => hl i (by omega))
    have h1 := hh.prep
    have h2 := hh.walk
    have h3 := hh.gone
    have h4 := (hl k (by omega)).drive
    simp only [byN]
    split <;> omega
theorem by_c (t : Town) (h : Home) (ht : TownOK t) (hh : HomeOK h) : CallS Try.prog 83 [.agg (townC t), .agg (homeC h)] (.int .i64 (byT t h)) := by
  have hhl := ht.halls
  (refine callS_of_awp (fun w args => Try.call83 ..) Try.func83 rfl (fun w0 m0 wz => ?_); simp only [Try.ntmps83, Try.results83, initT, junks, homeC, hallC, slH, slL, townC, sl, List.toList_toArray, List.cons_append, List.nil_append, List.length_cons, List.length_nil, Nat.reduceAdd, Nat.reduceSub])
  (repeat' (first
    | (refine awp_seqK ?_)
    | (refine kt ?_)
    | (refine And.intro ?_ ?_)
    | ((first | refine awp_region ?_ | refine awp_draw (by kernel_rfl) (by kernel_rfl) ?_ | refine Imp.le2 ?_ | refine awp_label ?_ | refine awp_skip ?_ | refine awp_exit ?_ | refine awp_cd ?_ | refine awp_ret ?_ | refine go_split (fun _h => ?_) (fun _h => ?_)) <;> try simp (maxSteps := 4000000) only [go_sem, seval])
    | (intro _h)
    | (refine awp_block ?_)
    | (refine awp_scope ?_)
    | (refine cond_b (fun _h => ?_) (fun _h => ?_))
    | (show heapOK _ _ = true; kernel_rfl)
    | (show heapOK2 _ _ = true; kernel_rfl)
    | (omega)))
  refine awp_loopN t.halls.length (fun k => ⟨mkT 45 [(2, .ptr 0 0 0), (3, .ptr 1 0 0), (5, .fn (.func 103) [.agg (homeC h)] []), (6, .int .i64 (byN h t.halls k)), (12, slL t.halls), (13, .int .i64 t.halls.length), (14, .int .i64 k)], [some (.cells 40 1 0 (townC t)), some (.cells 106 1 0 (homeC h))], []⟩) (.le2 ?_) ?_
  · simp only [townC, slH, slL, homeC]; simp (maxSteps := 4000000) only [go_sem, seval]
    first | rfl | exact ⟨rfl, rfl⟩
  · intro k hk
    have htk := taken_c h (t.halls.getD k default)
    have hbd := byN_bd (ls := t.halls) hh k (fun i hi => ht.hall i (by omega))
    have hho := ht.hall k
    have h1 := hh.prep
    have h2 := hh.walk
    have h3 := hh.gone
    simp only [homeC, hallC] at htk
    simp only [townC, slH, slL, homeC]; simp (maxSteps := 4000000) only [go_sem, seval]
    (repeat' (first
    | (refine awp_seqK ?_)
    | (refine kt ?_)
    | (refine And.intro ?_ ?_)
    | ((first | refine awp_region ?_ | refine awp_draw (by kernel_rfl) (by kernel_rfl) ?_ | refine Imp.le2 ?_ | refine awp_label ?_ | refine awp_skip ?_ | refine awp_exit ?_ | refine awp_cd ?_ | refine awp_ret ?_ | refine callK_of (htk) ?_ | refine callK_of (latest_c _ _ _) ?_ | refine go_split (fun _h => ?_) (fun _h => ?_)) <;> try simp (maxSteps := 4000000) only [go_sem, seval])
    | (intro _h)
    | (refine awp_block ?_)
    | (refine awp_scope ?_)
    | (refine cond_b (fun _h => ?_) (fun _h => ?_))
    | (show heapOK _ _ = true; kernel_rfl)
    | (show heapOK2 _ _ = true; kernel_rfl)
    | (omega)))
    all_goals first
      | (have h4 := (hho (by omega)).drive; omega)
      | (simp only [byN, fitB]; simp only [*, true_and, and_true, false_and, if_true, if_false]; done)
      | (have : k = t.halls.length := by omega
         subst this; rfl)
end Go.Am

/- Contracts of the away functions: what the statements use of the reference; the town for the program. -/
namespace Go.Am
open Go.RowKit Go.Proofs
attribute [local irreducible] AWP CallS Kt goK CallK stepK evOps SemF SemY Imp
set_option maxRecDepth 4000
set_option linter.unusedSimpArgs false
set_option linter.unusedVariables false
set_option maxHeartbeats 800000

theorem list_c (l : List Int) (hl : l.length ≤ 1000000) : CallS Try.prog 32 [sl l] (sl l) := by
  (refine callS_of_awp (fun w args => Try.call32 ..) Try.func32 rfl (fun w0 m0 wz => ?_); simp only [Try.ntmps32, Try.results32, initT, junks, homeC, hallC, slH, slL, townC, sl, List.toList_toArray, List.cons_append, List.nil_append, List.length_cons, List.length_nil, Nat.reduceAdd, Nat.reduceSub])
  (repeat' (first
    | (refine awp_seqK ?_)
    | (refine kt ?_)
    | (refine And.intro ?_ ?_)
    | ((first | refine awp_region ?_ | refine awp_draw (by kernel_rfl) (by kernel_rfl) ?_ | refine Imp.le2 ?_ | refine awp_label ?_ | refine awp_skip ?_ | refine awp_exit ?_ | refine awp_cd ?_ | refine awp_ret ?_ | refine go_split (fun _h => ?_) (fun _h => ?_)) <;> try simp (maxSteps := 4000000) only [go_sem, seval])
    | (intro _h)
    | (refine awp_block ?_)
    | (refine awp_scope ?_)
    | (refine cond_b (fun _h => ?_) (fun _h => ?_))
    | (show heapOK _ _ = true; kernel_rfl)
    | (show heapOK2 _ _ = true; kernel_rfl)
    | (omega)))
theorem ints_c (l l' : List Int) (hl : l.length ≤ 9223372036854775807) : CallS Try.prog 34 [sl l, sl l'] (.bool (decide (l = l'))) := by
  have hyes : l.length = l'.length → (∀ j, j < l.length → l.getD j 0 = l'.getD j 0) → true = decide (l = l') := fun a b => by
    refine (decide_eq_true ?_).symm
    apply List.ext_getElem a
    intro i h1 h2
    have := b i h1
    simpa [List.getD_eq_getElem?_getD, h1, h2] using this
  have hno : (l = l' → False) → false = decide (l = l') := fun a => (decide_eq_false a).symm
  generalize decide (l = l') = r at *
  (refine callS_of_awp (fun w args => Try.call34 ..) Try.func34 rfl (fun w0 m0 wz => ?_); simp only [Try.ntmps34, Try.results34, initT, junks, homeC, hallC, slH, slL, townC, sl, List.toList_toArray, List.cons_append, List.nil_append, List.length_cons, List.length_nil, Nat.reduceAdd, Nat.reduceSub])
  (repeat' (first
    | (refine awp_seqK ?_)
    | (refine kt ?_)
    | (refine And.intro ?_ ?_)
    | ((first | refine awp_region ?_ | refine awp_draw (by kernel_rfl) (by kernel_rfl) ?_ | refine Imp.le2 ?_ | refine awp_label ?_ | refine awp_skip ?_ | refine awp_exit ?_ | refine awp_cd ?_ | refine awp_ret ?_ | refine go_split (fun _h => ?_) (fun _h => ?_)) <;> try simp (maxSteps := 4000000) only [go_sem, seval])
    | (intro _h)
    | (refine awp_block ?_)
    | (refine awp_scope ?_)
    | (refine cond_b (fun _h => ?_) (fun _h => ?_))
    | (show heapOK _ _ = true; kernel_rfl)
    | (show heapOK2 _ _ = true; kernel_rfl)
    | (omega)))
  all_goals first
    | exact hno (fun h => by subst h; contradiction)
    | exact (hno (fun h => by subst h; contradiction)).symm
    | skip
  refine awp_loopJ (fun i : Nat => i ≤ l.length ∧ ∀ j, j < i → l.getD j 0 = l'.getD j 0) (fun i => ⟨mkT 26 [(0, sl l), (1, sl l'), (5, .int .i64 i)], [], []⟩) (fun i => l.length - i) 0 ⟨Nat.zero_le _, by simp⟩ (.le2 ?_) ?_
  · simp (maxSteps := 4000000) only [go_sem, seval]
  · rintro i ⟨hi, hj⟩
    simp (maxSteps := 4000000) only [go_sem, seval]
    (repeat' (first
    | (refine awp_seqK ?_)
    | (refine kt ?_)
    | (refine And.intro ?_ ?_)
    | ((first | refine awp_region ?_ | refine awp_draw (by kernel_rfl) (by kernel_rfl) ?_ | refine Imp.le2 ?_ | refine awp_label ?_ | refine awp_skip ?_ | refine awp_exit ?_ | refine awp_cd ?_ | refine awp_ret ?_ | refine go_split (fun _h => ?_) (fun _h => ?_)) <;> try simp (maxSteps := 4000000) only [go_sem, seval])
    | (intro _h)
    | (refine awp_block ?_)
    | (refine awp_scope ?_)
    | (refine cond_b (fun _h => ?_) (fun _h => ?_))
    | (show heapOK _ _ = true; kernel_rfl)
    | (show heapOK2 _ _ = true; kernel_rfl)
    | (omega)))
    all_goals first
      | (refine ⟨i + 1, ⟨by omega, fun j hji => ?_⟩, by omega, .le2 ?_⟩
         · rcases Nat.lt_succ_iff_lt_or_eq.1 hji with h | rfl
           · exact hj j h
           · assumption
         · simp (maxSteps := 4000000) only [go_sem, seval] <;> omega)
      | exact (hno (fun h => by subst h; contradiction)).symm
      | exact (hyes (by omega) (fun j h => hj j (by omega))).symm
      | exact (hno (fun h => by subst h; contradiction))
      | exact (hyes (by omega) (fun j h => hj j (by omega)))
      | trace_state
def thinB (t : Town) : Bool := decide (t.homes.length ≤ 12 ∧ t.halls.length ≤ 6)
theorem thin_c (t : Town) : CallS Try.prog 30 [.agg (townC t)] (.bool (thinB t)) := by
  unfold thinB
  (refine callS_of_awp (fun w args => Try.call30 ..) Try.func30 rfl (fun w0 m0 wz => ?_); simp only [Try.ntmps30, Try.results30, initT, junks, homeC, hallC, slH, slL, townC, sl, List.toList_toArray, List.cons_append, List.nil_append, List.length_cons, List.length_nil, Nat.reduceAdd, Nat.reduceSub])
  (repeat' (first
    | (refine awp_seqK ?_)
    | (refine kt ?_)
    | (refine And.intro ?_ ?_)
    | ((first | refine awp_region ?_ | refine awp_draw (by kernel_rfl) (by kernel_rfl) ?_ | refine Imp.le2 ?_ | refine awp_label ?_ | refine awp_skip ?_ | refine awp_exit ?_ | refine awp_cd ?_ | refine awp_ret ?_ | refine go_split (fun _h => ?_) (fun _h => ?_)) <;> try simp (maxSteps := 4000000) only [go_sem, seval])
    | (intro _h)
    | (refine awp_block ?_)
    | (refine awp_scope ?_)
    | (refine cond_b (fun _h => ?_) (fun _h => ?_))
    | (show heapOK _ _ = true; kernel_rfl)
    | (show heapOK2 _ _ = true; kernel_rfl)
    | (omega)))
  all_goals (simp only [eq_comm, decide_eq_true_eq, decide_eq_false_iff_not]; omega)
theorem to_c (lo hi : Int) : CallS Try.prog 54 [.agg [.int .i64 lo, .int .i64 hi]] (.agg [.int .i64 lo, .int .i64 hi]) := by
  (refine callS_of_awp (fun w args => Try.call54 ..) Try.func54 rfl (fun w0 m0 wz => ?_); simp only [Try.ntmps54, Try.results54, initT, junks, homeC, hallC, slH, slL, townC, sl, List.toList_toArray, List.cons_append, List.nil_append, List.length_cons, List.length_nil, Nat.reduceAdd, Nat.reduceSub])
  (repeat' (first
    | (refine awp_seqK ?_)
    | (refine kt ?_)
    | (refine And.intro ?_ ?_)
    | ((first | refine awp_region ?_ | refine awp_draw (by kernel_rfl) (by kernel_rfl) ?_ | refine Imp.le2 ?_ | refine awp_label ?_ | refine awp_skip ?_ | refine awp_exit ?_ | refine awp_cd ?_ | refine awp_ret ?_ | refine go_split (fun _h => ?_) (fun _h => ?_)) <;> try simp (maxSteps := 4000000) only [go_sem, seval])
    | (intro _h)
    | (refine awp_block ?_)
    | (refine awp_scope ?_)
    | (refine cond_b (fun _h => ?_) (fun _h => ?_))
    | (show heapOK _ _ = true; kernel_rfl)
    | (show heapOK2 _ _ = true; kernel_rfl)
    | (omega)))
theorem rWorst_c (t : Town) (i : Nat) (ht : TownOK t) (hi : i < t.homes.length) : CallS Try.prog 40 [.agg (townC t), .int .i64 i] (.int .i64 (worstN t (t.homes.getD i default))) := by
  obtain ⟨hh1, hh2⟩ := ht.homes
  have hc := ht.call
  have hm := mul_bd (a := t.homes.length) (A := 8) (b := t.chi) (B := 60) (by omega) (by omega) (by omega) (by omega)
  obtain ⟨_, hp, hw, _⟩ := ht.home i hi
  unfold worstN
  (refine callS_of_awp (fun w args => Try.call40 ..) Try.func40 rfl (fun w0 m0 wz => ?_); simp only [Try.ntmps40, Try.results40, initT, junks, homeC, hallC, slH, slL, townC, sl, List.toList_toArray, List.cons_append, List.nil_append, List.length_cons, List.length_nil, Nat.reduceAdd, Nat.reduceSub])
  (repeat' (first
    | (refine awp_seqK ?_)
    | (refine kt ?_)
    | (refine And.intro ?_ ?_)
    | ((first | refine awp_region ?_ | refine awp_draw (by kernel_rfl) (by kernel_rfl) ?_ | refine Imp.le2 ?_ | refine awp_label ?_ | refine awp_skip ?_ | refine awp_exit ?_ | refine awp_cd ?_ | refine awp_ret ?_ | refine go_split (fun _h => ?_) (fun _h => ?_)) <;> try simp (maxSteps := 4000000) only [go_sem, seval])
    | (intro _h)
    | (refine awp_block ?_)
    | (refine awp_scope ?_)
    | (refine cond_b (fun _h => ?_) (fun _h => ?_))
    | (show heapOK _ _ = true; kernel_rfl)
    | (show heapOK2 _ _ = true; kernel_rfl)
    | (omega)))
theorem takes_c (t : Town) (k i : Nat) (hk : k < t.halls.length) (hi : i < t.homes.length) : CallS Try.prog 84 [.agg (townC t), .int .i64 k, .int .i64 i] (.bool (decide (andn (t.homes.getD i default).pets (t.halls.getD k default).pets = 0))) := by
  (refine callS_of_awp (fun w args => Try.call84 ..) Try.func84 rfl (fun w0 m0 wz => ?_); simp only [Try.ntmps84, Try.results84, initT, junks, homeC, hallC, slH, slL, townC, sl, List.toList_toArray, List.cons_append, List.nil_append, List.length_cons, List.length_nil, Nat.reduceAdd, Nat.reduceSub])
  (repeat' (first
    | (refine awp_seqK ?_)
    | (refine kt ?_)
    | (refine And.intro ?_ ?_)
    | ((first | refine awp_region ?_ | refine awp_draw (by kernel_rfl) (by kernel_rfl) ?_ | refine Imp.le2 ?_ | refine awp_label ?_ | refine awp_skip ?_ | refine awp_exit ?_ | refine awp_cd ?_ | refine awp_ret ?_ | refine go_split (fun _h => ?_) (fun _h => ?_)) <;> try simp (maxSteps := 4000000) only [go_sem, seval])
    | (intro _h)
    | (refine awp_block ?_)
    | (refine awp_scope ?_)
    | (refine cond_b (fun _h => ?_) (fun _h => ?_))
    | (show heapOK _ _ = true; kernel_rfl)
    | (show heapOK2 _ _ = true; kernel_rfl)
    | (omega)))
theorem rBy_c (t : Town) (i : Nat) (ht : TownOK t) (hi : i < t.homes.length) : CallS Try.prog 68 [.agg (townC t), .int .i64 i] (.int .i64 (byT t (t.homes.getD i default))) := by
  have hhl := ht.halls
  have hh := ht.home i hi
  have hlen := ht.homes
  (refine callS_of_awp (fun w args => Try.call68 ..) Try.func68 rfl (fun w0 m0 wz => ?_); simp only [Try.ntmps68, Try.results68, initT, junks, homeC, hallC, slH, slL, townC, sl, List.toList_toArray, List.cons_append, List.nil_append, List.length_cons, List.length_nil, Nat.reduceAdd, Nat.reduceSub])
  (repeat' (first
    | (refine awp_seqK ?_)
    | (refine kt ?_)
    | (refine And.intro ?_ ?_)
    | ((first | refine awp_region ?_ | refine awp_draw (by kernel_rfl) (by kernel_rfl) ?_ | refine Imp.le2 ?_ | refine awp_label ?_ | refine awp_skip ?_ | refine awp_exit ?_ | refine awp_cd ?_ | refine awp_ret ?_ | refine go_split (fun _h => ?_) (fun _h => ?_)) <;> try simp (maxSteps := 4000000) only [go_sem, seval])
    | (intro _h)
    | (refine awp_block ?_)
    | (refine awp_scope ?_)
    | (refine cond_b (fun _h => ?_) (fun _h => ?_))
    | (show heapOK _ _ = true; kernel_rfl)
    | (show heapOK2 _ _ = true; kernel_rfl)
    | (omega)))
  refine awp_loopN t.halls.length (fun k => ⟨mkT 54 [(1, .int .i64 i), (2, .ptr 0 0 0), (5, .ptr 1 0 0), (6, .int .i64 (byN (t.homes.getD i default) t.halls k)), (7, .int .i64 k)], [some (.cells 27 1 0 (townC t)), some (.cells 45 1 0 (homeC (t.homes.getD i default)))], []⟩) (.le2 ?_) ?_
  · simp only [townC, slH, slL, homeC]; simp (maxSteps := 4000000) only [go_sem, seval]
    first | rfl | exact ⟨rfl, rfl⟩
  · intro k hk
    have htk := fun h => takes_c t k i h hi
    have hbd := byN_bd (ls := t.halls) hh k (fun i hi => ht.hall i (by omega))
    have hho := ht.hall k
    have h1 := hh.prep
    have h2 := hh.walk
    have h3 := hh.gone
    simp only [homeC, hallC, townC, slH, slL] at htk
    simp only [townC, slH, slL, homeC]; simp (maxSteps := 4000000) only [go_sem, seval]
    (repeat' (first
    | (refine awp_seqK ?_)
    | (refine kt ?_)
    | (refine And.intro ?_ ?_)
    | ((first | refine awp_region ?_ | refine awp_draw (by kernel_rfl) (by kernel_rfl) ?_ | refine Imp.le2 ?_ | refine awp_label ?_ | refine awp_skip ?_ | refine awp_exit ?_ | refine awp_cd ?_ | refine awp_ret ?_ | refine callK_of (htk (by omega)) ?_ | refine go_split (fun _h => ?_) (fun _h => ?_)) <;> try simp (maxSteps := 4000000) only [go_sem, seval])
    | (intro _h)
    | (refine awp_block ?_)
    | (refine awp_scope ?_)
    | (refine cond_b (fun _h => ?_) (fun _h => ?_))
    | (show heapOK _ _ = true; kernel_rfl)
    | (show heapOK2 _ _ = true; kernel_rfl)
    | (omega)))
    all_goals first
      | (have h4 := (hho (by omega)).drive; omega)
      | (simp only [byN, fitB]; simp only [*, true_and, and_true, false_and, if_true, if_false]; done)
      | (have : k = t.halls.length := by omega
         subst this; rfl)
      | trace_state
end Go.Am

/- Contracts of the away functions: the error of a town, by the reference; the town for the program. -/
namespace Go.Am
open Go.RowKit Go.Proofs
attribute [local irreducible] AWP CallS Kt goK CallK stepK evOps SemF SemY Imp
set_option maxRecDepth 4000
set_option linter.unusedSimpArgs false
set_option linter.unusedVariables false
set_option maxHeartbeats 1600000

theorem getD_mem {α : Type} {l : List α} {d : α} {i : Nat} (h : i < l.length) : l.getD i d ∈ l := by
  rw [List.getD_eq_getElem?_getD, List.getElem?_eq_getElem h]; exact List.getElem_mem h
theorem mem_getD {α : Type} {l : List α} {d : α} {x : α} (h : x ∈ l) : ∃ i, i < l.length ∧ l.getD i d = x := by
  obtain ⟨i, hi, rfl⟩ := List.mem_iff_getElem.1 h
  exact ⟨i, hi, by simp [List.getD_eq_getElem?_getD, hi]⟩
theorem fault_c (t : Town) (hb : townOK t) : CallS Try.prog 26 [.agg (townC t)] (.int .i64 (faultT t)) := by
  obtain ⟨hb1, hb2⟩ := hb
  have r3 : (8 < t.homes.length ∨ 3 < t.halls.length) → 3 = faultT t := fun h => by unfold faultT; rw [if_pos h]
  have r1 : ¬ (8 < t.homes.length ∨ 3 < t.halls.length) → ((t.homes.length = 0 ∨ ¬ (1 ≤ t.seats ∧ t.seats ≤ 200)) ∨ ¬ (0 ≤ t.clo ∧ t.clo ≤ t.chi ∧ t.chi ≤ 60)) → 1 = faultT t := fun h h' => by
    unfold faultT; rw [if_neg h, if_pos (by rcases h' with h' | h'; exact .inl h'; exact .inr (.inl h'))]
  have rH : ¬ (8 < t.homes.length ∨ 3 < t.halls.length) → ∀ j, j < t.homes.length → homeB (t.homes.getD j default) = false → 1 = faultT t := fun h j hj h' => by
    unfold faultT; rw [if_neg h, if_pos (.inr (.inr (.inl (by rw [List.all_eq_false]; exact ⟨t.homes.getD j default, getD_mem hj, by rw [h']; simp⟩))))]
  have rL : ¬ (8 < t.homes.length ∨ 3 < t.halls.length) → ∀ j, j < t.halls.length → hallB (t.halls.getD j default) = false → 1 = faultT t := fun h j hj h' => by
    unfold faultT; rw [if_neg h, if_pos (.inr (.inr (.inr (by rw [List.all_eq_false]; exact ⟨t.halls.getD j default, getD_mem hj, by rw [h']; simp⟩))))]
  have r0 : ¬ (8 < t.homes.length ∨ 3 < t.halls.length) → ¬ ((t.homes.length = 0 ∨ ¬ (1 ≤ t.seats ∧ t.seats ≤ 200)) ∨ ¬ (0 ≤ t.clo ∧ t.clo ≤ t.chi ∧ t.chi ≤ 60)) → (∀ j, j < t.homes.length → homeB (t.homes.getD j default) = true) → (∀ j, j < t.halls.length → hallB (t.halls.getD j default) = true) → 0 = faultT t := fun h h' h1 h2 => by
    have e1 : t.homes.all homeB = true := by
      rw [List.all_eq_true]; intro x hx; obtain ⟨i, hi, rfl⟩ := mem_getD (d := default) hx; exact h1 i hi
    have e2 : t.halls.all hallB = true := by
      rw [List.all_eq_true]; intro x hx; obtain ⟨i, hi, rfl⟩ := mem_getD (d := default) hx; exact h2 i hi
    unfold faultT; rw [if_neg h, if_neg (by rw [e1, e2]; simp only [reduceCtorEq, or_false]; exact h')]
  generalize faultT t = r at *
  (refine callS_of_awp (fun w args => Try.call26 ..) Try.func26 rfl (fun w0 m0 wz => ?_); simp only [Try.ntmps26, Try.results26, initT, junks, homeC, hallC, slH, slL, townC, sl, List.toList_toArray, List.cons_append, List.nil_append, List.length_cons, List.length_nil, Nat.reduceAdd, Nat.reduceSub])
  (repeat' (first
    | (refine awp_seqK ?_)
    | (refine kt ?_)
    | (refine And.intro ?_ ?_)
    | ((first | refine awp_region ?_ | refine awp_draw (by kernel_rfl) (by kernel_rfl) ?_ | refine Imp.le2 ?_ | refine awp_label ?_ | refine awp_skip ?_ | refine awp_exit ?_ | refine awp_cd ?_ | refine awp_ret ?_ | refine callK_of (in_c _ _ _) ?_ | refine callK_of (span_c _ _ _) ?_ | refine go_split (fun _h => ?_) (fun _h => ?_)) <;> try simp (maxSteps := 4000000) only [go_sem, seval])
    | (intro _h)
    | (refine awp_block ?_)
    | (refine awp_scope ?_)
    | (refine cond_b (fun _h => ?_) (fun _h => ?_))
    | (show heapOK _ _ = true; kernel_rfl)
    | (show heapOK2 _ _ = true; kernel_rfl)
    | (omega)))
  all_goals first
    | (exact r3 (by omega))
    | (exact r1 (by omega) (by omega))
    | (exact (r3 (by omega)).symm)
    | (exact (r1 (by omega) (by omega)).symm)
    | skip
  refine awp_loopJ (fun i : Nat => i ≤ t.homes.length ∧ ∀ j, j < i → homeB (t.homes.getD j default) = true) (fun i => ⟨mkT 91 [(1, .ptr 0 0 0), (3, .int .i64 i)], [some (.cells 27 1 0 (townC t))], []⟩) (fun i => t.homes.length - i) 0 ⟨Nat.zero_le _, by simp⟩ (.le2 ?_) ?_
  · simp only [townC, slH, slL]; simp (maxSteps := 4000000) only [go_sem, seval]
  · rintro i ⟨hi, hj⟩
    have r3' := r3; clear r3
    simp only [townC, slH, slL]; simp (maxSteps := 4000000) only [go_sem, seval]
    (repeat' (first
    | (refine awp_seqK ?_)
    | (refine kt ?_)
    | (refine And.intro ?_ ?_)
    | ((first | refine awp_region ?_ | refine awp_draw (by kernel_rfl) (by kernel_rfl) ?_ | refine Imp.le2 ?_ | refine awp_label ?_ | refine awp_skip ?_ | refine awp_exit ?_ | refine awp_cd ?_ | refine awp_ret ?_ | refine callK_of (in_c _ _ _) ?_ | refine callK_of (span_c _ _ _) ?_ | refine go_split (fun _h => ?_) (fun _h => ?_)) <;> try simp (maxSteps := 4000000) only [go_sem, seval])
    | (intro _h)
    | (refine awp_block ?_)
    | (refine awp_scope ?_)
    | (refine cond_b (fun _h => ?_) (fun _h => ?_))
    | (show heapOK _ _ = true; kernel_rfl)
    | (show heapOK2 _ _ = true; kernel_rfl)
    | (omega)))
    all_goals first
      | (refine ⟨i + 1, ⟨by omega, fun j hji => ?_⟩, by omega, .le2 ?_⟩
         · rcases Nat.lt_succ_iff_lt_or_eq.1 hji with h | rfl
           · exact hj j h
           · exact decide_eq_true ⟨‹_›, ‹_›, ‹_›, ‹_›⟩
         · simp (maxSteps := 4000000) only [go_sem, seval] <;> omega)
      | (exact rH (by omega) i (by omega) (decide_eq_false (by omega)))
      | (exact (rH (by omega) i (by omega) (decide_eq_false (by omega))).symm)
      | skip
    have hi' : i = t.homes.length := by omega
    subst hi'
    refine awp_loopJ (fun i : Nat => i ≤ t.halls.length ∧ ∀ j, j < i → hallB (t.halls.getD j default) = true) (fun i => ⟨mkT 91 [(1, .ptr 0 0 0), (5, .int .i64 i)], [some (.cells 27 1 0 (townC t))], []⟩) (fun i => t.halls.length - i) 0 ⟨Nat.zero_le _, by simp⟩ (.le2 ?_) ?_
    · simp only [townC, slH, slL]; simp (maxSteps := 4000000) only [go_sem, seval]
    · rintro k ⟨hk, hkj⟩
      simp only [townC, slH, slL]; simp (maxSteps := 4000000) only [go_sem, seval]
      (repeat' (first
    | (refine awp_seqK ?_)
    | (refine kt ?_)
    | (refine And.intro ?_ ?_)
    | ((first | refine awp_region ?_ | refine awp_draw (by kernel_rfl) (by kernel_rfl) ?_ | refine Imp.le2 ?_ | refine awp_label ?_ | refine awp_skip ?_ | refine awp_exit ?_ | refine awp_cd ?_ | refine awp_ret ?_ | refine callK_of (in_c _ _ _) ?_ | refine go_split (fun _h => ?_) (fun _h => ?_)) <;> try simp (maxSteps := 4000000) only [go_sem, seval])
    | (intro _h)
    | (refine awp_block ?_)
    | (refine awp_scope ?_)
    | (refine cond_b (fun _h => ?_) (fun _h => ?_))
    | (show heapOK _ _ = true; kernel_rfl)
    | (show heapOK2 _ _ = true; kernel_rfl)
    | (omega)))
      all_goals first
        | (refine ⟨k + 1, ⟨by omega, fun j hji => ?_⟩, by omega, .le2 ?_⟩
           · rcases Nat.lt_succ_iff_lt_or_eq.1 hji with h | rfl
             · exact hkj j h
             · exact decide_eq_true ⟨‹_›, ‹_›⟩
           · simp (maxSteps := 4000000) only [go_sem, seval] <;> omega)
        | (exact rL (by omega) k (by omega) (decide_eq_false (by omega)))
        | (exact (rL (by omega) k (by omega) (decide_eq_false (by omega))).symm)
        | (exact r0 (by omega) (by omega) (fun j h => hj j (by omega)) (fun j h => hkj j (by omega)))
        | (exact (r0 (by omega) (by omega) (fun j h => hj j (by omega)) (fun j h => hkj j (by omega))).symm)
        | trace_state
theorem recs_take {α : Type} {enc : α → List AV} {l : List α} {d : α} {k : Nat} (h : k < l.length) : recs enc (l.take k) ++ enc (l.getD k d) = recs enc (l.take (k + 1)) := by
  rw [take_snoc (d := d) h, recs_snoc]
theorem Town_c (t : Town) (hb : townOK t) : CallS Try.prog 18 [.agg (townC t)] (.agg (townC t)) := by
  obtain ⟨hb1, hb2⟩ := hb
  (refine callS_of_awp (fun w args => Try.call18 ..) Try.func18 rfl (fun w0 m0 wz => ?_); simp only [Try.ntmps18, Try.results18, initT, junks, homeC, hallC, slH, slL, townC, sl, List.toList_toArray, List.cons_append, List.nil_append, List.length_cons, List.length_nil, Nat.reduceAdd, Nat.reduceSub])
  (repeat' (first
    | (refine awp_seqK ?_)
    | (refine kt ?_)
    | (refine And.intro ?_ ?_)
    | ((first | refine awp_region ?_ | refine awp_draw (by kernel_rfl) (by kernel_rfl) ?_ | refine Imp.le2 ?_ | refine awp_label ?_ | refine awp_skip ?_ | refine awp_exit ?_ | refine awp_cd ?_ | refine awp_ret ?_ | refine callK_of (to_c _ _) ?_ | refine go_split (fun _h => ?_) (fun _h => ?_)) <;> try simp (maxSteps := 4000000) only [go_sem, seval])
    | (intro _h)
    | (refine awp_block ?_)
    | (refine awp_scope ?_)
    | (refine cond_b (fun _h => ?_) (fun _h => ?_))
    | (show heapOK _ _ = true; kernel_rfl)
    | (show heapOK2 _ _ = true; kernel_rfl)
    | (omega)))
  refine awp_adH 2 0 106 6 rfl rfl ?_
  simp only [adH, hget, hset, lset, List.length_cons, List.length_nil, Nat.reduceAdd]
  refine awp_adH 2 1 91 3 rfl rfl ?_
  simp only [adH, hget, hset, lset, List.length_cons, List.length_nil, Nat.reduceAdd]
  refine awp_loopN t.homes.length (fun k => ⟨mkT 68 [(1, .ptr 0 0 0), (2, .ptr 1 0 0), (3, .ptr 2 0 0), (4, .int .i64 k)], [some (.cells 27 1 0 (townC t)), some (.cells 40 1 0 [.nils, .nils, .int .i64 0, .int .i64 0, .int .i64 0]), some (.cells 40 1 0 [.osl 3 k 0 k, .osl 4 0 0 0, .int .i64 t.seats, .int .i64 t.clo, .int .i64 t.chi]), some (.cells 106 6 k (recs homeC (t.homes.take k))), some (.cells 91 3 0 [])], []⟩) (.le2 ?_) ?_
  · simp only [townC, slH, slL]; simp (maxSteps := 4000000) only [go_sem, seval]
    rfl
  · intro k hk
    rcases Nat.lt_or_eq_of_le hk with hk1 | hk1
    · have hlt : (t.homes.take k).length = k := by simp; omega
      have hsn := recs_take (enc := homeC) (d := default) hk1
      simp only [homeC] at hsn
      simp only [townC, slH, slL]; simp (maxSteps := 4000000) only [go_sem, seval]
      (repeat' (first
    | ((omega))
    | (refine awp_seqK ?_)
    | (refine kt ?_)
    | (refine And.intro ?_ ?_)
    | ((first | refine awp_region ?_ | refine awp_draw (by kernel_rfl) (by kernel_rfl) ?_ | refine Imp.le2 ?_ | refine awp_label ?_ | refine awp_skip ?_ | refine awp_exit ?_ | refine awp_cd ?_ | refine awp_ret ?_ | refine callK_of (to_c _ _) ?_ | refine go_split (fun _h => ?_) (fun _h => ?_)) <;> try simp (maxSteps := 4000000) only [go_sem, seval, hlt, hsn])
    | (intro _h)
    | (refine awp_block ?_)
    | (refine awp_scope ?_)
    | (refine cond_b (fun _h => ?_) (fun _h => ?_))
    | (show heapOK _ _ = true; kernel_rfl)
    | (show heapOK2 _ _ = true; kernel_rfl)
    | (omega)))
      all_goals trace_state
    · subst hk1
      have hlt : (t.homes.take t.homes.length) = t.homes := by simp
      simp only [townC, slH, slL]; simp (maxSteps := 4000000) only [go_sem, seval, hlt]
      (repeat' (first
    | ((exfalso; omega))
    | (refine awp_seqK ?_)
    | (refine kt ?_)
    | (refine And.intro ?_ ?_)
    | ((first | refine awp_region ?_ | refine awp_draw (by kernel_rfl) (by kernel_rfl) ?_ | refine Imp.le2 ?_ | refine awp_label ?_ | refine awp_skip ?_ | refine awp_exit ?_ | refine awp_cd ?_ | refine awp_ret ?_ | refine go_split (fun _h => ?_) (fun _h => ?_)) <;> try simp (maxSteps := 4000000) only [go_sem, seval, hlt])
    | (intro _h)
    | (refine awp_block ?_)
    | (refine awp_scope ?_)
    | (refine cond_b (fun _h => ?_) (fun _h => ?_))
    | (show heapOK _ _ = true; kernel_rfl)
    | (show heapOK2 _ _ = true; kernel_rfl)
    | (omega)))
      refine awp_loopN t.halls.length (fun k => ⟨mkT 68 [(1, .ptr 0 0 0), (2, .ptr 1 0 0), (3, .ptr 2 0 0), (6, .int .i64 k)], [some (.cells 27 1 0 (townC t)), some (.cells 40 1 0 [.nils, .nils, .int .i64 0, .int .i64 0, .int .i64 0]), some (.cells 40 1 0 [.osl 3 t.homes.length 0 t.homes.length, .osl 4 k 0 k, .int .i64 t.seats, .int .i64 t.clo, .int .i64 t.chi]), some (.cells 106 6 t.homes.length (recs homeC t.homes)), some (.cells 91 3 k (recs hallC (t.halls.take k)))], []⟩) (.le2 ?_) ?_
      · simp only [townC, slH, slL]; simp (maxSteps := 4000000) only [go_sem, seval]
        rfl
      · intro k hk
        rcases Nat.lt_or_eq_of_le hk with hk1 | hk1
        · have hlt : (t.halls.take k).length = k := by simp; omega
          have hsn := recs_take (enc := hallC) (d := default) hk1
          simp only [hallC] at hsn
          simp only [townC, slH, slL]; simp (maxSteps := 4000000) only [go_sem, seval]
          (repeat' (first
    | ((omega))
    | (refine awp_seqK ?_)
    | (refine kt ?_)
    | (refine And.intro ?_ ?_)
    | ((first | refine awp_region ?_ | refine awp_draw (by kernel_rfl) (by kernel_rfl) ?_ | refine Imp.le2 ?_ | refine awp_label ?_ | refine awp_skip ?_ | refine awp_exit ?_ | refine awp_cd ?_ | refine awp_ret ?_ | refine go_split (fun _h => ?_) (fun _h => ?_)) <;> try simp (maxSteps := 4000000) only [go_sem, seval, hlt, hsn])
    | (intro _h)
    | (refine awp_block ?_)
    | (refine awp_scope ?_)
    | (refine cond_b (fun _h => ?_) (fun _h => ?_))
    | (show heapOK _ _ = true; kernel_rfl)
    | (show heapOK2 _ _ = true; kernel_rfl)
    | (omega)))
          all_goals trace_state
        · subst hk1
          have hlt : (t.halls.take t.halls.length) = t.halls := by simp
          simp only [townC, slH, slL]; simp (maxSteps := 4000000) only [go_sem, seval, hlt]
          (repeat' (first
    | ((exfalso; omega))
    | (refine awp_seqK ?_)
    | (refine kt ?_)
    | (refine And.intro ?_ ?_)
    | ((first | refine awp_region ?_ | refine awp_draw (by kernel_rfl) (by kernel_rfl) ?_ | refine Imp.le2 ?_ | refine awp_label ?_ | refine awp_skip ?_ | refine awp_exit ?_ | refine awp_cd ?_ | refine awp_ret ?_ | refine go_split (fun _h => ?_) (fun _h => ?_)) <;> try simp (maxSteps := 4000000) only [go_sem, seval, hlt])
    | (intro _h)
    | (refine awp_block ?_)
    | (refine awp_scope ?_)
    | (refine cond_b (fun _h => ?_) (fun _h => ?_))
    | (show heapOK _ _ = true; kernel_rfl)
    | (show heapOK2 _ _ = true; kernel_rfl)
    | (omega)))
          all_goals trace_state
end Go.Am

/- Lists that are told by a function; lists of bools; maps with keys of any kind; orders. -/
namespace Go.Am
open Go.RowKit Go.Proofs
set_option linter.unusedSimpArgs false
set_option linter.unusedVariables false

/-- A list of n elements, told by a function. -/
def tab {α : Type} (n : Nat) (f : Nat → α) : List α := (List.range n).map f
section
variable {α : Type} {n : Nat} {f g : Nat → α}
theorem tab_length : (tab n f).length = n := by simp [tab]
theorem tab_getD {j : Nat} {d : α} (h : j < n) : (tab n f).getD j d = f j := by simp [tab, List.getD_eq_getElem?_getD, h]
theorem tab_congr (h : ∀ j, j < n → f j = g j) : tab n f = tab n g := List.map_congr_left fun j hj => h j (by simpa using hj)
/-- One element in another's place. -/
def isp (l : List α) (j : Nat) (v : α) : List α := l.take j ++ v :: l.drop (j + 1)
theorem isp_set {l : List α} {j : Nat} {v : α} (h : j < l.length) : isp l j v = l.set j v := by rw [List.set_eq_take_append_cons_drop, if_pos h]; rfl
theorem isp_length {l : List α} {j : Nat} {v : α} (h : j < l.length) : (isp l j v).length = l.length := by rw [isp_set h, List.length_set]
theorem isp_getD {l : List α} {j k : Nat} {v d : α} (h : j < l.length) : (isp l j v).getD k d = if k = j then v else l.getD k d := by
  rw [isp_set h]
  simp only [List.getD_eq_getElem?_getD, List.getElem?_set]
  by_cases e : j = k
  · subst e; simp [h]
  · rw [if_neg e, if_neg (Ne.symm e)]
theorem isp_tab {j : Nat} {v : α} (h : j < n) : isp (tab n f) j v = tab n fun i => if i = j then v else f i := by
  rw [isp_set (by rw [tab_length]; exact h)]
  apply List.ext_getElem
  · simp [tab]
  · intro i a b
    simp only [tab, List.getElem_set, List.getElem_map, List.getElem_range]
    by_cases e : j = i
    · subst e; simp
    · rw [if_neg e, if_neg (Ne.symm e)]
theorem tab_fill {n v : Nat} {G : Nat → Bool} {b : Bool} (h : v < n) (hb : G v = b) : isp (tab n fun i => if i < v then G i else false) v b = tab n fun i => if i < v + 1 then G i else false := by
  rw [isp_tab h]
  refine tab_congr fun i _ => ?_
  rcases Nat.lt_trichotomy i v with h9 | h9 | h9
  · simp only [show ¬ i = v by omega, h9, show i < v + 1 by omega, if_true, if_false]
  · subst h9; simp [hb]
  · simp only [show ¬ i = v by omega, show ¬ i < v by omega, show ¬ i < v + 1 by omega, if_false]
theorem replicate_tab {a : α} : List.replicate n a = tab n fun _ => a := by
  apply List.ext_getElem
  · simp [tab]
  · intro i h1 h2; simp [tab]
end
/-- A list of bools, as cells. -/
def bools (l : List Bool) : List AV := l.map .bool
theorem bools_length {l : List Bool} : (bools l).length = l.length := by simp [bools]
theorem pl_bools {l : List Bool} : pureL (bools l) = True := by
  simp only [pureL, bools, List.mem_map, eq_iff_iff, iff_true]
  rintro _ ⟨a, _, rfl⟩; rfl
theorem al_bools {l : List Bool} {p : Nat → Bool} : (bools l).all (live2 p) = true := by
  simp only [bools, List.all_map, List.all_eq_true]
  intro z _; rfl
theorem nth_bools {l : List Bool} {j : Nat} {K : AV → Prop} : optK (nth (bools l) j) K = (j < l.length ∧ K (.bool (l.getD j false))) := by
  rw [← nth_is]
  simp only [bools, List.getElem?_map]
  by_cases h : j < l.length
  · simp [h, optK, List.getD_eq_getElem?_getD]
  · simp [h, optK]
theorem sp_bools {l : List Bool} {j : Nat} {b : Bool} : splice (bools l) j [.bool b] = bools (isp l j b) := by
  simp [splice, bools, isp, List.map_take, List.map_drop]
theorem sp_ints {l : List Int} {j : Nat} {v : Int} : splice (ints l) j [.int .i64 v] = ints (isp l j v) := by
  simp [splice, ints, isp, List.map_take, List.map_drop]
theorem rep_ints {n : Nat} {v : Int} : (List.replicate n [AV.int .i64 v]).flatten = ints (tab n fun _ => v) := by
  rw [← replicate_tab]
  induction n with
  | zero => rfl
  | succ n ih => rw [List.replicate_succ, List.flatten_cons, ih]; rfl
theorem rep_bools {n : Nat} {v : Bool} : (List.replicate n [AV.bool v]).flatten = bools (tab n fun _ => v) := by
  rw [← replicate_tab]
  induction n with
  | zero => rfl
  | succ n ih => rw [List.replicate_succ, List.flatten_cons, ih]; rfl
attribute [go_sem] bools_length pl_bools al_bools nth_bools sp_bools tab_length


attribute [go_sem] sp_ints
/-! ### Maps -/
section
variable {κ ν : Type} [DecidableEq κ]
def gmC (eK : κ → AV) (eV : ν → AV) (m : List (κ × ν)) : List (AV × AV) := m.map fun e => (eK e.1, eV e.2)
def gmGet : List (κ × ν) → κ → Option ν
  | [], _ => none
  | e :: m, k => if e.1 = k then some e.2 else gmGet m k
def gmPut : List (κ × ν) → κ → ν → List (κ × ν)
  | [], k, v => [(k, v)]
  | e :: m, k, v => if e.1 = k then (k, v) :: m else e :: gmPut m k v
/-- Keys that a map finds. -/
def KeyE (eK : κ → AV) : Prop := ∀ a b v es, mapFind ((eK a, v) :: es) (eK b) = if a = b then some (some (0, v)) else (mapFind es (eK b)).map (·.map fun p => (p.1 + 1, p.2))
theorem gfind {eK : κ → AV} {eV : ν → AV} (he : KeyE eK) (k : κ) : ∀ m : List (κ × ν),
    (∃ i v, mapFind (gmC eK eV m) (eK k) = some (some (i, eV v)) ∧ gmGet m k = some v ∧ (∀ a, (gmC eK eV m).set i (eK k, eV a) = gmC eK eV (gmPut m k a))) ∨
    (mapFind (gmC eK eV m) (eK k) = some none ∧ gmGet m k = none ∧ (∀ a, gmC eK eV m ++ [(eK k, eV a)] = gmC eK eV (gmPut m k a)))
  | [] => .inr ⟨by simp [gmC, mapFind], rfl, fun a => rfl⟩
  | e :: m => by
    have hc : mapFind (gmC eK eV (e :: m)) (eK k) = if e.1 = k then some (some (0, eV e.2)) else (mapFind (gmC eK eV m) (eK k)).map (·.map fun p => (p.1 + 1, p.2)) := he _ _ _ _
    by_cases h : e.1 = k
    · refine .inl ⟨0, e.2, ?_, ?_, fun a => ?_⟩
      · rw [hc, if_pos h]
      · simp [gmGet, h]
      · simp [gmC, gmPut, h]
    · rcases gfind he k m with ⟨i, v, h1, h2, h3⟩ | ⟨h1, h2, h3⟩
      · refine .inl ⟨i + 1, v, ?_, by simp [gmGet, h, h2], fun a => ?_⟩
        · rw [hc, if_neg h, h1]; rfl
        · have := h3 a
          simp only [gmC, List.map_cons, gmPut, h, if_false, List.set_cons_succ] at this ⊢
          rw [this]
      · refine .inr ⟨?_, by simp [gmGet, h, h2], fun a => ?_⟩
        · rw [hc, if_neg h, h1]; rfl
        · have := h3 a
          simp only [gmC, List.map_cons, gmPut, h, if_false, List.cons_append] at this ⊢
          rw [this]
theorem mup_g {eK : κ → AV} {eV : ν → AV} (he : KeyE eK) {m : List (κ × ν)} {k : κ} {v : ν} {f : List (AV × AV) → Prop} : mupK (gmC eK eV m) (eK k) (eV v) f = f (gmC eK eV (gmPut m k v)) := by
  rcases gfind (eV := eV) he k m with ⟨i, w, h1, h2, h3⟩ | ⟨h1, h2, h3⟩
  · simp only [mupK, h1, h3]
  · simp only [mupK, h1, h3]
theorem mget_gs {eK : κ → AV} {eV : ν → AV} (he : KeyE eK) {m : List (κ × ν)} {k : κ} {v : ν} {z : AV} {f : AV → Bool → Prop} (h : gmGet m k = some v) : mgetK (gmC eK eV m) (eK k) z f = f (eV v) true := by
  rcases gfind (eV := eV) he k m with ⟨i, w, h1, h2, h3⟩ | ⟨h1, h2, h3⟩
  · rw [h] at h2; cases h2; simp only [mgetK, h1]
  · rw [h] at h2; cases h2
theorem mget_gn {eK : κ → AV} {eV : ν → AV} (he : KeyE eK) {m : List (κ × ν)} {k : κ} {z : AV} {f : AV → Bool → Prop} (h : gmGet m k = none) : mgetK (gmC eK eV m) (eK k) z f = f z false := by
  rcases gfind (eV := eV) he k m with ⟨i, w, h1, h2, h3⟩ | ⟨h1, h2, h3⟩
  · rw [h] at h2; cases h2
  · simp only [mgetK, h1]
theorem gmPut_length {m : List (κ × ν)} {k : κ} {v : ν} : (gmPut m k v).length = if k ∈ m.map (·.1) then m.length else m.length + 1 := by
  induction m with
  | nil => simp [gmPut]
  | cons e m ih =>
    simp only [gmPut, List.map_cons, List.mem_cons]
    by_cases h : e.1 = k
    · rw [if_pos h, if_pos (.inl h.symm)]; simp
    · rw [if_neg h]
      by_cases h2 : k ∈ m.map (·.1)
      · rw [if_pos (.inr h2), List.length_cons, List.length_cons, ih, if_pos h2]
      · rw [if_neg (by rintro (rfl | h3); exact h rfl; exact h2 h3), List.length_cons, List.length_cons, ih, if_neg h2]
theorem gmPut_keys {m : List (κ × ν)} {k x : κ} {v : ν} : x ∈ (gmPut m k v).map (·.1) ↔ x = k ∨ x ∈ m.map (·.1) := by
  induction m with
  | nil => simp [gmPut]
  | cons e m ih =>
    simp only [gmPut]
    by_cases h : e.1 = k
    · rw [if_pos h]
      simp only [List.map_cons, List.mem_cons]
      rw [h]
      constructor
      · rintro (h1 | h1)
        · exact .inl h1
        · exact .inr (.inr h1)
      · rintro (h1 | h1 | h1)
        · exact .inl h1
        · exact .inl h1
        · exact .inr h1
    · rw [if_neg h]
      simp only [List.map_cons, List.mem_cons, ih]
      constructor
      · rintro (h1 | h1 | h1)
        · exact .inr (.inl h1)
        · exact .inl h1
        · exact .inr (.inr h1)
      · rintro (h1 | h1 | h1)
        · exact .inr (.inl h1)
        · exact .inl h1
        · exact .inr (.inr h1)
end
/-- Numbers as keys, bools as values. -/
def bmC (m : List (Int × Bool)) : List (AV × AV) := gmC (AV.int .i64) AV.bool m
theorem key_int : KeyE (AV.int .i64) := fun a b v es => by
  simp only [mapFind, if_true]
theorem mup_bm {m : List (Int × Bool)} {n : Int} {b : Bool} {f : List (AV × AV) → Prop} : mupK (bmC m) (.int .i64 n) (.bool b) f = f (bmC (gmPut m n b)) := mup_g key_int
theorem al_bm {q : Nat → Bool} {m : List (Int × Bool)} : ((bmC m).all fun e => live2 q e.1 && live2 q e.2) = true := by
  simp only [bmC, gmC, List.all_map, List.all_eq_true]
  intro e _; rfl
theorem bm_length {m : List (Int × Bool)} : (bmC m).length = m.length := by simp [bmC, gmC]
attribute [go_sem] mup_bm al_bm bm_length

/-- The keys that were put in, one after the other. -/
def putAll (g : Int → Bool) : List Int → List (Int × Bool)
  | [] => []
  | k :: l => gmPut (putAll g l) k (g k)
theorem putAll_keys {g : Int → Bool} {x : Int} : ∀ {l : List Int}, x ∈ (putAll g l).map (·.1) ↔ x ∈ l
  | [] => by simp [putAll]
  | k :: l => by simp only [putAll]; rw [gmPut_keys, putAll_keys]; simp
theorem putAll_length {g : Int → Bool} : ∀ {l : List Int}, (putAll g l).length ≤ l.length ∧ ((putAll g l).length = l.length ↔ l.Nodup)
  | [] => by simp [putAll]
  | k :: l => by
    obtain ⟨h1, h2⟩ := putAll_length (g := g) (l := l)
    simp only [putAll]
    rw [gmPut_length]
    simp only [putAll_keys, List.length_cons, List.nodup_cons]
    by_cases h : k ∈ l
    · rw [if_pos h]
      exact ⟨by omega, ⟨fun e => by omega, fun e => absurd h e.1⟩⟩
    · rw [if_neg h]
      exact ⟨by omega, ⟨fun e => ⟨h, h2.1 (by omega)⟩, fun e => by rw [h2.2 e.2]⟩⟩
theorem rev_take_succ {l : List Int} {k : Nat} (h : k < l.length) : (l.take (k + 1)).reverse = l.getD k 0 :: (l.take k).reverse := by
  rw [take_snoc (d := 0) h]; simp

/-- A list of different numbers below n has n at most. -/
theorem nodup_le : ∀ (n : Nat) (l : List Int), l.Nodup → (∀ x ∈ l, 0 ≤ x ∧ x < n) → l.length ≤ n
  | 0, l, _, h => by
    cases l with
    | nil => simp
    | cons x l => have := h x (by simp); omega
  | n + 1, l, hn, h => by
    have h1 := nodup_le n (l.erase (n : Int)) (hn.erase _) (fun x hx => by
      rw [hn.mem_erase_iff] at hx
      have := h x hx.2
      have := hx.1
      omega)
    rw [List.length_erase] at h1
    split at h1 <;> omega
end Go.Am

/- Lists of words. -/
namespace Go.Am
open Go.RowKit Go.Proofs
set_option linter.unusedSimpArgs false
set_option linter.unusedVariables false
/-- A list of words, as cells. -/
def u16s (l : List Int) : List AV := l.map (.int .u16)
def slU (l : List Int) : AV := .psl false l.length (u16s l)
theorem u16s_length {l : List Int} : (u16s l).length = l.length := by simp [u16s]
theorem pl_u16s {l : List Int} : pureL (u16s l) = True := by
  simp only [pureL, u16s, List.mem_map, eq_iff_iff, iff_true]
  rintro _ ⟨a, _, rfl⟩; rfl
theorem nth_u16s {l : List Int} {j : Nat} {K : AV → Prop} : optK (nth (u16s l) j) K = (j < l.length ∧ K (.int .u16 (l.getD j 0))) := by
  rw [← nth_is]
  simp only [u16s, List.getElem?_map]
  by_cases h : j < l.length
  · simp [h, optK, List.getD_eq_getElem?_getD]
  · simp [h, optK]
attribute [go_sem] u16s_length pl_u16s nth_u16s
end Go.Am
