/- Parts Tab, AlA, AlC, AlS, AlD, RdA, AlE, AlF, AlG, AlH, AlT, AlQ, AlI, RdB, AlB, AlV, AlN of the proof, one behind the other: the machine of abstract values, contracts, plain words. No statement is proved here. -/
import Derived.Test.YtnjommobapmgbaaM2
import Derived.Test.YtnjommobapmgbaaProg
import Derived.KernelRfl
import Derived.Test.YtnjommobapmgbaaM3
/- MADE BY A PROGRAM of ours (wip/tools/Tab): what the program's table says of the types that the walks meet. -/
namespace Go.Am
open Go.RowKit Go.Proofs
theorem tsz3 : tsz Try.prog 3 = some 1 := by kernel_rfl
theorem tagg3 : tagg Try.prog 3 = some false := by kernel_rfl
theorem tint3 : tint Try.prog 3 = some .i64 := by kernel_rfl
theorem tund3 : (Try.prog.underlying 3).isSome = true := by kernel_rfl
theorem tbytes3 : tbytes Try.prog 3 = some 8 := by kernel_rfl
theorem tzero3 : tzero Try.prog 3 = some [.int .i64 0] := by kernel_rfl
theorem tzv3 : tzv Try.prog 3 = some (.int .i64 0) := by kernel_rfl
theorem tsz4 : tsz Try.prog 4 = some 1 := by kernel_rfl
theorem tagg4 : tagg Try.prog 4 = some false := by kernel_rfl
theorem tbytes4 : tbytes Try.prog 4 = some 1 := by kernel_rfl
theorem tzero4 : tzero Try.prog 4 = some [.bool false] := by kernel_rfl
theorem tzv4 : tzv Try.prog 4 = some (.bool false) := by kernel_rfl
theorem tsz5 : tsz Try.prog 5 = some 1 := by kernel_rfl
theorem tagg5 : tagg Try.prog 5 = some false := by kernel_rfl
theorem tint5 : tint Try.prog 5 = some .u8 := by kernel_rfl
theorem tund5 : (Try.prog.underlying 5).isSome = true := by kernel_rfl
theorem tbytes5 : tbytes Try.prog 5 = some 1 := by kernel_rfl
theorem tzero5 : tzero Try.prog 5 = some [.int .u8 0] := by kernel_rfl
theorem tzv5 : tzv Try.prog 5 = some (.int .u8 0) := by kernel_rfl
theorem tsz11 : tsz Try.prog 11 = some 1 := by kernel_rfl
theorem tagg11 : tagg Try.prog 11 = some false := by kernel_rfl
theorem tbytes11 : tbytes Try.prog 11 = some 16 := by kernel_rfl
theorem tzero11 : tzero Try.prog 11 = some [.str (ByteArray.mk #[])] := by kernel_rfl
theorem tzv11 : tzv Try.prog 11 = some (.str (ByteArray.mk #[])) := by kernel_rfl
theorem tsz12 : tsz Try.prog 12 = some 1 := by kernel_rfl
theorem tagg12 : tagg Try.prog 12 = some false := by kernel_rfl
theorem tint12 : tint Try.prog 12 = some .u64 := by kernel_rfl
theorem tund12 : (Try.prog.underlying 12).isSome = true := by kernel_rfl
theorem tbytes12 : tbytes Try.prog 12 = some 8 := by kernel_rfl
theorem tzero12 : tzero Try.prog 12 = some [.int .u64 0] := by kernel_rfl
theorem tzv12 : tzv Try.prog 12 = some (.int .u64 0) := by kernel_rfl
theorem tsz17 : tsz Try.prog 17 = some 1 := by kernel_rfl
theorem tagg17 : tagg Try.prog 17 = some false := by kernel_rfl
theorem tbytes17 : tbytes Try.prog 17 = some 8 := by kernel_rfl
theorem tzero17 : tzero Try.prog 17 = some [.nilp] := by kernel_rfl
theorem tzv17 : tzv Try.prog 17 = some (.nilp) := by kernel_rfl
theorem tsz18 : tsz Try.prog 18 = some 1 := by kernel_rfl
theorem tagg18 : tagg Try.prog 18 = some true := by kernel_rfl
theorem tarr18 : tarr Try.prog 18 = none := by kernel_rfl
theorem tbytes18 : tbytes Try.prog 18 = some 8 := by kernel_rfl
theorem tzero18 : tzero Try.prog 18 = some [.nilp] := by kernel_rfl
theorem tzv18 : tzv Try.prog 18 = some (.agg [.nilp]) := by kernel_rfl
theorem tplaces18 : tplaces Try.prog 18 = some [(0, 1)] := by kernel_rfl
theorem tfld18_0 : tfld Try.prog 18 0 = some (0, 17) := by kernel_rfl
theorem tsz22 : tsz Try.prog 22 = some 1 := by kernel_rfl
theorem tagg22 : tagg Try.prog 22 = some false := by kernel_rfl
theorem tslice22 : tslice Try.prog 22 = some 3 := by kernel_rfl
theorem tbytes22 : tbytes Try.prog 22 = some 24 := by kernel_rfl
theorem tzero22 : tzero Try.prog 22 = some [.nils] := by kernel_rfl
theorem tzv22 : tzv Try.prog 22 = some (.nils) := by kernel_rfl
theorem tsz24 : tsz Try.prog 24 = some 2 := by kernel_rfl
theorem tagg24 : tagg Try.prog 24 = some true := by kernel_rfl
theorem tarr24 : tarr Try.prog 24 = none := by kernel_rfl
theorem tbytes24 : tbytes Try.prog 24 = some 32 := by kernel_rfl
theorem tzero24 : tzero Try.prog 24 = some [.nils, .bool false] := by kernel_rfl
theorem tzv24 : tzv Try.prog 24 = some (.agg [.nils, .bool false]) := by kernel_rfl
theorem tplaces24 : tplaces Try.prog 24 = some [(0, 1), (1, 1)] := by kernel_rfl
theorem tfld24_0 : tfld Try.prog 24 0 = some (0, 22) := by kernel_rfl
theorem tfld24_1 : tfld Try.prog 24 1 = some (1, 4) := by kernel_rfl
theorem tsz26 : tsz Try.prog 26 = some 3 := by kernel_rfl
theorem tagg26 : tagg Try.prog 26 = some true := by kernel_rfl
theorem tarr26 : tarr Try.prog 26 = none := by kernel_rfl
theorem tbytes26 : tbytes Try.prog 26 = some 24 := by kernel_rfl
theorem tzero26 : tzero Try.prog 26 = some [.int .i64 0, .int .i64 0, .int .i64 0] := by kernel_rfl
theorem tzv26 : tzv Try.prog 26 = some (.agg [.int .i64 0, .int .i64 0, .int .i64 0]) := by kernel_rfl
theorem tplaces26 : tplaces Try.prog 26 = some [(0, 1), (1, 1), (2, 1)] := by kernel_rfl
theorem tfld26_0 : tfld Try.prog 26 0 = some (0, 3) := by kernel_rfl
theorem tfld26_1 : tfld Try.prog 26 1 = some (1, 3) := by kernel_rfl
theorem tfld26_2 : tfld Try.prog 26 2 = some (2, 3) := by kernel_rfl
theorem tsz28 : tsz Try.prog 28 = some 1 := by kernel_rfl
theorem tagg28 : tagg Try.prog 28 = some false := by kernel_rfl
theorem tslice28 : tslice Try.prog 28 = some 42 := by kernel_rfl
theorem tbytes28 : tbytes Try.prog 28 = some 24 := by kernel_rfl
theorem tzero28 : tzero Try.prog 28 = some [.nils] := by kernel_rfl
theorem tzv28 : tzv Try.prog 28 = some (.nils) := by kernel_rfl
theorem tsz29 : tsz Try.prog 29 = some 1 := by kernel_rfl
theorem tagg29 : tagg Try.prog 29 = some false := by kernel_rfl
theorem tint29 : tint Try.prog 29 = some .i64 := by kernel_rfl
theorem tund29 : (Try.prog.underlying 29).isSome = true := by kernel_rfl
theorem tbytes29 : tbytes Try.prog 29 = some 8 := by kernel_rfl
theorem tzero29 : tzero Try.prog 29 = some [.int .i64 0] := by kernel_rfl
theorem tzv29 : tzv Try.prog 29 = some (.int .i64 0) := by kernel_rfl
theorem tsz32 : tsz Try.prog 32 = some 2 := by kernel_rfl
theorem tagg32 : tagg Try.prog 32 = some true := by kernel_rfl
theorem tarr32 : tarr Try.prog 32 = none := by kernel_rfl
theorem tbytes32 : tbytes Try.prog 32 = some 32 := by kernel_rfl
theorem tzero32 : tzero Try.prog 32 = some [.nils, .bool false] := by kernel_rfl
theorem tzv32 : tzv Try.prog 32 = some (.agg [.nils, .bool false]) := by kernel_rfl
theorem tplaces32 : tplaces Try.prog 32 = some [(0, 1), (1, 1)] := by kernel_rfl
theorem tfld32_0 : tfld Try.prog 32 0 = some (0, 22) := by kernel_rfl
theorem tfld32_1 : tfld Try.prog 32 1 = some (1, 4) := by kernel_rfl
theorem tsz34 : tsz Try.prog 34 = some 3 := by kernel_rfl
theorem tagg34 : tagg Try.prog 34 = some true := by kernel_rfl
theorem tarr34 : tarr Try.prog 34 = none := by kernel_rfl
theorem tbytes34 : tbytes Try.prog 34 = some 24 := by kernel_rfl
theorem tzero34 : tzero Try.prog 34 = some [.int .i64 0, .int .i64 0, .int .i64 0] := by kernel_rfl
theorem tzv34 : tzv Try.prog 34 = some (.agg [.int .i64 0, .int .i64 0, .int .i64 0]) := by kernel_rfl
theorem tplaces34 : tplaces Try.prog 34 = some [(0, 1), (1, 1), (2, 1)] := by kernel_rfl
theorem tfld34_0 : tfld Try.prog 34 0 = some (0, 3) := by kernel_rfl
theorem tfld34_1 : tfld Try.prog 34 1 = some (1, 3) := by kernel_rfl
theorem tfld34_2 : tfld Try.prog 34 2 = some (2, 3) := by kernel_rfl
theorem tsz37 : tsz Try.prog 37 = some 1 := by kernel_rfl
theorem tagg37 : tagg Try.prog 37 = some false := by kernel_rfl
theorem tslice37 : tslice Try.prog 37 = some 24 := by kernel_rfl
theorem tbytes37 : tbytes Try.prog 37 = some 24 := by kernel_rfl
theorem tzero37 : tzero Try.prog 37 = some [.nils] := by kernel_rfl
theorem tzv37 : tzv Try.prog 37 = some (.nils) := by kernel_rfl
theorem tsz39 : tsz Try.prog 39 = some 1 := by kernel_rfl
theorem tagg39 : tagg Try.prog 39 = some false := by kernel_rfl
theorem tslice39 : tslice Try.prog 39 = some 43 := by kernel_rfl
theorem tbytes39 : tbytes Try.prog 39 = some 24 := by kernel_rfl
theorem tzero39 : tzero Try.prog 39 = some [.nils] := by kernel_rfl
theorem tzv39 : tzv Try.prog 39 = some (.nils) := by kernel_rfl
theorem tsz42 : tsz Try.prog 42 = some 2 := by kernel_rfl
theorem tagg42 : tagg Try.prog 42 = some true := by kernel_rfl
theorem tarr42 : tarr Try.prog 42 = none := by kernel_rfl
theorem tbytes42 : tbytes Try.prog 42 = some 16 := by kernel_rfl
theorem tzero42 : tzero Try.prog 42 = some [.int .i64 0, .int .i64 0] := by kernel_rfl
theorem tzv42 : tzv Try.prog 42 = some (.agg [.int .i64 0, .int .i64 0]) := by kernel_rfl
theorem tplaces42 : tplaces Try.prog 42 = some [(0, 1), (1, 1)] := by kernel_rfl
theorem tfld42_0 : tfld Try.prog 42 0 = some (0, 3) := by kernel_rfl
theorem tfld42_1 : tfld Try.prog 42 1 = some (1, 3) := by kernel_rfl
theorem tsz43 : tsz Try.prog 43 = some 2 := by kernel_rfl
theorem tagg43 : tagg Try.prog 43 = some true := by kernel_rfl
theorem tarr43 : tarr Try.prog 43 = none := by kernel_rfl
theorem tbytes43 : tbytes Try.prog 43 = some 16 := by kernel_rfl
theorem tzero43 : tzero Try.prog 43 = some [.int .i64 0, .int .i64 0] := by kernel_rfl
theorem tzv43 : tzv Try.prog 43 = some (.agg [.int .i64 0, .int .i64 0]) := by kernel_rfl
theorem tplaces43 : tplaces Try.prog 43 = some [(0, 1), (1, 1)] := by kernel_rfl
theorem tfld43_0 : tfld Try.prog 43 0 = some (0, 3) := by kernel_rfl
theorem tfld43_1 : tfld Try.prog 43 1 = some (1, 3) := by kernel_rfl
theorem tsz46 : tsz Try.prog 46 = some 6 := by kernel_rfl
theorem tagg46 : tagg Try.prog 46 = some true := by kernel_rfl
theorem tarr46 : tarr Try.prog 46 = none := by kernel_rfl
theorem tbytes46 : tbytes Try.prog 46 = some 64 := by kernel_rfl
theorem tzero46 : tzero Try.prog 46 = some [.nils, .int .i64 0, .int .i64 0, .int .i64 0, .int .i64 0, .int .i64 0] := by kernel_rfl
theorem tzv46 : tzv Try.prog 46 = some (.agg [.nils, .int .i64 0, .int .i64 0, .int .i64 0, .int .i64 0, .int .i64 0]) := by kernel_rfl
theorem tplaces46 : tplaces Try.prog 46 = some [(0, 1), (1, 1), (2, 1), (3, 1), (4, 1), (5, 1)] := by kernel_rfl
theorem tfld46_0 : tfld Try.prog 46 0 = some (0, 22) := by kernel_rfl
theorem tfld46_1 : tfld Try.prog 46 1 = some (1, 3) := by kernel_rfl
theorem tfld46_2 : tfld Try.prog 46 2 = some (2, 3) := by kernel_rfl
theorem tfld46_3 : tfld Try.prog 46 3 = some (3, 3) := by kernel_rfl
theorem tfld46_4 : tfld Try.prog 46 4 = some (4, 3) := by kernel_rfl
theorem tfld46_5 : tfld Try.prog 46 5 = some (5, 3) := by kernel_rfl
theorem tsz47 : tsz Try.prog 47 = some 1 := by kernel_rfl
theorem tagg47 : tagg Try.prog 47 = some false := by kernel_rfl
theorem tslice47 : tslice Try.prog 47 = some 22 := by kernel_rfl
theorem tbytes47 : tbytes Try.prog 47 = some 24 := by kernel_rfl
theorem tzero47 : tzero Try.prog 47 = some [.nils] := by kernel_rfl
theorem tzv47 : tzv Try.prog 47 = some (.nils) := by kernel_rfl
theorem tsz48 : tsz Try.prog 48 = some 1 := by kernel_rfl
theorem tagg48 : tagg Try.prog 48 = some false := by kernel_rfl
theorem tint48 : tint Try.prog 48 = some .u16 := by kernel_rfl
theorem tund48 : (Try.prog.underlying 48).isSome = true := by kernel_rfl
theorem tbytes48 : tbytes Try.prog 48 = some 2 := by kernel_rfl
theorem tzero48 : tzero Try.prog 48 = some [.int .u16 0] := by kernel_rfl
theorem tzv48 : tzv Try.prog 48 = some (.int .u16 0) := by kernel_rfl
theorem tsz49 : tsz Try.prog 49 = some 1 := by kernel_rfl
theorem tagg49 : tagg Try.prog 49 = some false := by kernel_rfl
theorem tslice49 : tslice Try.prog 49 = some 48 := by kernel_rfl
theorem tbytes49 : tbytes Try.prog 49 = some 24 := by kernel_rfl
theorem tzero49 : tzero Try.prog 49 = some [.nils] := by kernel_rfl
theorem tzv49 : tzv Try.prog 49 = some (.nils) := by kernel_rfl
theorem tsz51 : tsz Try.prog 51 = some 6 := by kernel_rfl
theorem tagg51 : tagg Try.prog 51 = some true := by kernel_rfl
theorem tarr51 : tarr Try.prog 51 = none := by kernel_rfl
theorem tbytes51 : tbytes Try.prog 51 = some 64 := by kernel_rfl
theorem tzero51 : tzero Try.prog 51 = some [.nils, .int .i64 0, .int .i64 0, .int .i64 0, .int .i64 0, .int .i64 0] := by kernel_rfl
theorem tzv51 : tzv Try.prog 51 = some (.agg [.nils, .int .i64 0, .int .i64 0, .int .i64 0, .int .i64 0, .int .i64 0]) := by kernel_rfl
theorem tplaces51 : tplaces Try.prog 51 = some [(0, 1), (1, 1), (2, 1), (3, 1), (4, 1), (5, 1)] := by kernel_rfl
theorem tfld51_0 : tfld Try.prog 51 0 = some (0, 22) := by kernel_rfl
theorem tfld51_1 : tfld Try.prog 51 1 = some (1, 3) := by kernel_rfl
theorem tfld51_2 : tfld Try.prog 51 2 = some (2, 3) := by kernel_rfl
theorem tfld51_3 : tfld Try.prog 51 3 = some (3, 3) := by kernel_rfl
theorem tfld51_4 : tfld Try.prog 51 4 = some (4, 3) := by kernel_rfl
theorem tfld51_5 : tfld Try.prog 51 5 = some (5, 3) := by kernel_rfl
theorem tsz54 : tsz Try.prog 54 = some 1 := by kernel_rfl
theorem tagg54 : tagg Try.prog 54 = some false := by kernel_rfl
theorem tslice54 : tslice Try.prog 54 = some 58 := by kernel_rfl
theorem tbytes54 : tbytes Try.prog 54 = some 24 := by kernel_rfl
theorem tzero54 : tzero Try.prog 54 = some [.nils] := by kernel_rfl
theorem tzv54 : tzv Try.prog 54 = some (.nils) := by kernel_rfl
theorem tsz58 : tsz Try.prog 58 = some 3 := by kernel_rfl
theorem tagg58 : tagg Try.prog 58 = some true := by kernel_rfl
theorem tarr58 : tarr Try.prog 58 = none := by kernel_rfl
theorem tbytes58 : tbytes Try.prog 58 = some 24 := by kernel_rfl
theorem tzero58 : tzero Try.prog 58 = some [.int .i64 0, .int .i64 0, .int .u8 0] := by kernel_rfl
theorem tzv58 : tzv Try.prog 58 = some (.agg [.int .i64 0, .int .i64 0, .int .u8 0]) := by kernel_rfl
theorem tplaces58 : tplaces Try.prog 58 = some [(0, 1), (1, 1), (2, 1)] := by kernel_rfl
theorem tfld58_0 : tfld Try.prog 58 0 = some (0, 3) := by kernel_rfl
theorem tfld58_1 : tfld Try.prog 58 1 = some (1, 3) := by kernel_rfl
theorem tfld58_2 : tfld Try.prog 58 2 = some (2, 5) := by kernel_rfl
theorem tsz59 : tsz Try.prog 59 = some 1 := by kernel_rfl
theorem tagg59 : tagg Try.prog 59 = some false := by kernel_rfl
theorem tbytes59 : tbytes Try.prog 59 = some 8 := by kernel_rfl
theorem tzero59 : tzero Try.prog 59 = some [.nilf] := by kernel_rfl
theorem tzv59 : tzv Try.prog 59 = some (.nilf) := by kernel_rfl
theorem tsz60 : tsz Try.prog 60 = some 1 := by kernel_rfl
theorem tagg60 : tagg Try.prog 60 = some false := by kernel_rfl
theorem tbytes60 : tbytes Try.prog 60 = some 8 := by kernel_rfl
theorem tzero60 : tzero Try.prog 60 = some [.nilf] := by kernel_rfl
theorem tzv60 : tzv Try.prog 60 = some (.nilf) := by kernel_rfl
theorem tsz70 : tsz Try.prog 70 = some 3 := by kernel_rfl
theorem tagg70 : tagg Try.prog 70 = some true := by kernel_rfl
theorem tarr70 : tarr Try.prog 70 = none := by kernel_rfl
theorem tbytes70 : tbytes Try.prog 70 = some 24 := by kernel_rfl
theorem tzero70 : tzero Try.prog 70 = some [.int .i64 0, .int .i64 0, .int .u8 0] := by kernel_rfl
theorem tzv70 : tzv Try.prog 70 = some (.agg [.int .i64 0, .int .i64 0, .int .u8 0]) := by kernel_rfl
theorem tplaces70 : tplaces Try.prog 70 = some [(0, 1), (1, 1), (2, 1)] := by kernel_rfl
theorem tfld70_0 : tfld Try.prog 70 0 = some (0, 3) := by kernel_rfl
theorem tfld70_1 : tfld Try.prog 70 1 = some (1, 3) := by kernel_rfl
theorem tfld70_2 : tfld Try.prog 70 2 = some (2, 5) := by kernel_rfl
theorem tsz72 : tsz Try.prog 72 = some 1 := by kernel_rfl
theorem tagg72 : tagg Try.prog 72 = some false := by kernel_rfl
theorem tbytes72 : tbytes Try.prog 72 = some 8 := by kernel_rfl
theorem tzero72 : tzero Try.prog 72 = some [.nilf] := by kernel_rfl
theorem tzv72 : tzv Try.prog 72 = some (.nilf) := by kernel_rfl
theorem tsz73 : tsz Try.prog 73 = some 1 := by kernel_rfl
theorem tagg73 : tagg Try.prog 73 = some false := by kernel_rfl
theorem tbytes73 : tbytes Try.prog 73 = some 8 := by kernel_rfl
theorem tzero73 : tzero Try.prog 73 = some [.nilf] := by kernel_rfl
theorem tzv73 : tzv Try.prog 73 = some (.nilf) := by kernel_rfl
theorem tsz78 : tsz Try.prog 78 = some 1 := by kernel_rfl
theorem tagg78 : tagg Try.prog 78 = some false := by kernel_rfl
theorem tslice78 : tslice Try.prog 78 = some 4 := by kernel_rfl
theorem tbytes78 : tbytes Try.prog 78 = some 24 := by kernel_rfl
theorem tzero78 : tzero Try.prog 78 = some [.nils] := by kernel_rfl
theorem tzv78 : tzv Try.prog 78 = some (.nils) := by kernel_rfl
theorem tsz80 : tsz Try.prog 80 = some 1 := by kernel_rfl
theorem tagg80 : tagg Try.prog 80 = some false := by kernel_rfl
theorem tint80 : tint Try.prog 80 = some .i8 := by kernel_rfl
theorem tund80 : (Try.prog.underlying 80).isSome = true := by kernel_rfl
theorem tbytes80 : tbytes Try.prog 80 = some 1 := by kernel_rfl
theorem tzero80 : tzero Try.prog 80 = some [.int .i8 0] := by kernel_rfl
theorem tzv80 : tzv Try.prog 80 = some (.int .i8 0) := by kernel_rfl
theorem tsz88 : tsz Try.prog 88 = some 2 := by kernel_rfl
theorem tagg88 : tagg Try.prog 88 = some true := by kernel_rfl
theorem tslice88 : tslice Try.prog 88 = none := by kernel_rfl
theorem tarr88 : tarr Try.prog 88 = some (2, 3) := by kernel_rfl
theorem tbytes88 : tbytes Try.prog 88 = some 16 := by kernel_rfl
theorem tzero88 : tzero Try.prog 88 = some [.int .i64 0, .int .i64 0] := by kernel_rfl
theorem tzv88 : tzv Try.prog 88 = some (.agg [.int .i64 0, .int .i64 0]) := by kernel_rfl
theorem tsz90 : tsz Try.prog 90 = some 5 := by kernel_rfl
theorem tagg90 : tagg Try.prog 90 = some true := by kernel_rfl
theorem tarr90 : tarr Try.prog 90 = none := by kernel_rfl
theorem tbytes90 : tbytes Try.prog 90 = some 40 := by kernel_rfl
theorem tzero90 : tzero Try.prog 90 = some [.int .i64 0, .int .i64 0, .int .i64 0, .int .i64 0, .int .i64 0] := by kernel_rfl
theorem tzv90 : tzv Try.prog 90 = some (.agg [.int .i64 0, .int .i64 0, .int .i64 0, .int .i64 0, .int .i64 0]) := by kernel_rfl
theorem tplaces90 : tplaces Try.prog 90 = some [(0, 1), (1, 1), (2, 1), (3, 1), (4, 1)] := by kernel_rfl
theorem tfld90_0 : tfld Try.prog 90 0 = some (0, 3) := by kernel_rfl
theorem tfld90_1 : tfld Try.prog 90 1 = some (1, 3) := by kernel_rfl
theorem tfld90_2 : tfld Try.prog 90 2 = some (2, 3) := by kernel_rfl
theorem tfld90_3 : tfld Try.prog 90 3 = some (3, 3) := by kernel_rfl
theorem tfld90_4 : tfld Try.prog 90 4 = some (4, 3) := by kernel_rfl
theorem tsz94 : tsz Try.prog 94 = some 1 := by kernel_rfl
theorem tagg94 : tagg Try.prog 94 = some false := by kernel_rfl
theorem tslice94 : tslice Try.prog 94 = some 32 := by kernel_rfl
theorem tbytes94 : tbytes Try.prog 94 = some 24 := by kernel_rfl
theorem tzero94 : tzero Try.prog 94 = some [.nils] := by kernel_rfl
theorem tzv94 : tzv Try.prog 94 = some (.nils) := by kernel_rfl
theorem tsz96 : tsz Try.prog 96 = some 5 := by kernel_rfl
theorem tagg96 : tagg Try.prog 96 = some true := by kernel_rfl
theorem tarr96 : tarr Try.prog 96 = none := by kernel_rfl
theorem tbytes96 : tbytes Try.prog 96 = some 40 := by kernel_rfl
theorem tzero96 : tzero Try.prog 96 = some [.int .i64 0, .int .i64 0, .int .i64 0, .int .i64 0, .int .i64 0] := by kernel_rfl
theorem tzv96 : tzv Try.prog 96 = some (.agg [.int .i64 0, .int .i64 0, .int .i64 0, .int .i64 0, .int .i64 0]) := by kernel_rfl
theorem tplaces96 : tplaces Try.prog 96 = some [(0, 1), (1, 1), (2, 1), (3, 1), (4, 1)] := by kernel_rfl
theorem tfld96_0 : tfld Try.prog 96 0 = some (0, 3) := by kernel_rfl
theorem tfld96_1 : tfld Try.prog 96 1 = some (1, 3) := by kernel_rfl
theorem tfld96_2 : tfld Try.prog 96 2 = some (2, 3) := by kernel_rfl
theorem tfld96_3 : tfld Try.prog 96 3 = some (3, 3) := by kernel_rfl
theorem tfld96_4 : tfld Try.prog 96 4 = some (4, 3) := by kernel_rfl
theorem tsz115 : tsz Try.prog 115 = some 1 := by kernel_rfl
theorem tagg115 : tagg Try.prog 115 = some false := by kernel_rfl
theorem tbytes115 : tbytes Try.prog 115 = some 8 := by kernel_rfl
theorem tzero115 : tzero Try.prog 115 = some [.nilp] := by kernel_rfl
theorem tzv115 : tzv Try.prog 115 = some (.nilp) := by kernel_rfl
theorem tsz119 : tsz Try.prog 119 = some 1 := by kernel_rfl
theorem tagg119 : tagg Try.prog 119 = some false := by kernel_rfl
theorem tbytes119 : tbytes Try.prog 119 = some 8 := by kernel_rfl
theorem tzero119 : tzero Try.prog 119 = some [.nilf] := by kernel_rfl
theorem tzv119 : tzv Try.prog 119 = some (.nilf) := by kernel_rfl
theorem tsz122 : tsz Try.prog 122 = some 2 := by kernel_rfl
theorem tagg122 : tagg Try.prog 122 = some true := by kernel_rfl
theorem tslice122 : tslice Try.prog 122 = none := by kernel_rfl
theorem tarr122 : tarr Try.prog 122 = some (2, 3) := by kernel_rfl
theorem tbytes122 : tbytes Try.prog 122 = some 16 := by kernel_rfl
theorem tzero122 : tzero Try.prog 122 = some [.int .i64 0, .int .i64 0] := by kernel_rfl
theorem tzv122 : tzv Try.prog 122 = some (.agg [.int .i64 0, .int .i64 0]) := by kernel_rfl
theorem tsz123 : tsz Try.prog 123 = some 1 := by kernel_rfl
theorem tagg123 : tagg Try.prog 123 = some false := by kernel_rfl
theorem tbytes123 : tbytes Try.prog 123 = some 8 := by kernel_rfl
theorem tzero123 : tzero Try.prog 123 = some [.nilf] := by kernel_rfl
theorem tzv123 : tzv Try.prog 123 = some (.nilf) := by kernel_rfl
theorem tsz125 : tsz Try.prog 125 = some 1 := by kernel_rfl
theorem tagg125 : tagg Try.prog 125 = some false := by kernel_rfl
theorem tbytes125 : tbytes Try.prog 125 = some 8 := by kernel_rfl
theorem tzero125 : tzero Try.prog 125 = some [.nilf] := by kernel_rfl
theorem tzv125 : tzv Try.prog 125 = some (.nilf) := by kernel_rfl
theorem tsz127 : tsz Try.prog 127 = some 1 := by kernel_rfl
theorem tagg127 : tagg Try.prog 127 = some false := by kernel_rfl
theorem tslice127 : tslice Try.prog 127 = some 129 := by kernel_rfl
theorem tbytes127 : tbytes Try.prog 127 = some 24 := by kernel_rfl
theorem tzero127 : tzero Try.prog 127 = some [.nils] := by kernel_rfl
theorem tzv127 : tzv Try.prog 127 = some (.nils) := by kernel_rfl
theorem tsz129 : tsz Try.prog 129 = some 1 := by kernel_rfl
theorem tagg129 : tagg Try.prog 129 = some false := by kernel_rfl
theorem tmap129 : tmap Try.prog 129 = some (3, 122) := by kernel_rfl
theorem tbytes129 : tbytes Try.prog 129 = some 8 := by kernel_rfl
theorem tzero129 : tzero Try.prog 129 = some [.nilm] := by kernel_rfl
theorem tzv129 : tzv Try.prog 129 = some (.nilm) := by kernel_rfl
theorem tsz130 : tsz Try.prog 130 = some 1 := by kernel_rfl
theorem tagg130 : tagg Try.prog 130 = some false := by kernel_rfl
theorem tbytes130 : tbytes Try.prog 130 = some 8 := by kernel_rfl
theorem tzero130 : tzero Try.prog 130 = some [.nilf] := by kernel_rfl
theorem tzv130 : tzv Try.prog 130 = some (.nilf) := by kernel_rfl
theorem tsz136 : tsz Try.prog 136 = some 1 := by kernel_rfl
theorem tagg136 : tagg Try.prog 136 = some false := by kernel_rfl
theorem tbytes136 : tbytes Try.prog 136 = some 8 := by kernel_rfl
theorem tzero136 : tzero Try.prog 136 = some [.nilf] := by kernel_rfl
theorem tzv136 : tzv Try.prog 136 = some (.nilf) := by kernel_rfl
theorem tsz140 : tsz Try.prog 140 = some 1 := by kernel_rfl
theorem tagg140 : tagg Try.prog 140 = some false := by kernel_rfl
theorem tbytes140 : tbytes Try.prog 140 = some 8 := by kernel_rfl
theorem tzero140 : tzero Try.prog 140 = some [.nilf] := by kernel_rfl
theorem tzv140 : tzv Try.prog 140 = some (.nilf) := by kernel_rfl
theorem tsz142 : tsz Try.prog 142 = some 7 := by kernel_rfl
theorem tagg142 : tagg Try.prog 142 = some true := by kernel_rfl
theorem tarr142 : tarr Try.prog 142 = none := by kernel_rfl
theorem tbytes142 : tbytes Try.prog 142 = some 72 := by kernel_rfl
theorem tzero142 : tzero Try.prog 142 = some [.nils, .int .i64 0, .int .i64 0, .int .i64 0, .int .i64 0, .int .i64 0, .nilm] := by kernel_rfl
theorem tzv142 : tzv Try.prog 142 = some (.agg [.nils, .int .i64 0, .int .i64 0, .int .i64 0, .int .i64 0, .int .i64 0, .nilm]) := by kernel_rfl
theorem tplaces142 : tplaces Try.prog 142 = some [(0, 6), (6, 1)] := by kernel_rfl
theorem tfld142_0 : tfld Try.prog 142 0 = some (0, 51) := by kernel_rfl
theorem tfld142_1 : tfld Try.prog 142 1 = some (6, 129) := by kernel_rfl
theorem tsz152 : tsz Try.prog 152 = some 1 := by kernel_rfl
theorem tagg152 : tagg Try.prog 152 = some false := by kernel_rfl
theorem tbytes152 : tbytes Try.prog 152 = some 8 := by kernel_rfl
theorem tzero152 : tzero Try.prog 152 = some [.nilf] := by kernel_rfl
theorem tzv152 : tzv Try.prog 152 = some (.nilf) := by kernel_rfl
theorem tsz154 : tsz Try.prog 154 = some 2 := by kernel_rfl
theorem tagg154 : tagg Try.prog 154 = some true := by kernel_rfl
theorem tarr154 : tarr Try.prog 154 = none := by kernel_rfl
theorem tbytes154 : tbytes Try.prog 154 = some 16 := by kernel_rfl
theorem tzero154 : tzero Try.prog 154 = some [.int .u8 0, .nilf] := by kernel_rfl
theorem tzv154 : tzv Try.prog 154 = some (.agg [.int .u8 0, .nilf]) := by kernel_rfl
theorem tplaces154 : tplaces Try.prog 154 = some [(0, 1), (1, 1)] := by kernel_rfl
theorem tfld154_0 : tfld Try.prog 154 0 = some (0, 5) := by kernel_rfl
theorem tfld154_1 : tfld Try.prog 154 1 = some (1, 152) := by kernel_rfl
theorem tsz155 : tsz Try.prog 155 = some 1 := by kernel_rfl
theorem tagg155 : tagg Try.prog 155 = some false := by kernel_rfl
theorem tslice155 : tslice Try.prog 155 = some 154 := by kernel_rfl
theorem tbytes155 : tbytes Try.prog 155 = some 24 := by kernel_rfl
theorem tzero155 : tzero Try.prog 155 = some [.nils] := by kernel_rfl
theorem tzv155 : tzv Try.prog 155 = some (.nils) := by kernel_rfl
attribute [go_sem] tsz3 tagg3 tint3 tund3 tbytes3 tzero3 tzv3 tsz4 tagg4 tbytes4 tzero4 tzv4 tsz5 tagg5 tint5 tund5 tbytes5 tzero5 tzv5 tsz11 tagg11 tbytes11 tzero11 tzv11 tsz12 tagg12 tint12 tund12 tbytes12 tzero12 tzv12 tsz17 tagg17 tbytes17 tzero17 tzv17 tsz18 tagg18 tarr18 tbytes18 tzero18 tzv18 tplaces18 tfld18_0 tsz22 tagg22 tslice22 tbytes22 tzero22 tzv22 tsz24 tagg24 tarr24 tbytes24 tzero24 tzv24 tplaces24 tfld24_0 tfld24_1 tsz26 tagg26 tarr26 tbytes26 tzero26 tzv26 tplaces26 tfld26_0 tfld26_1 tfld26_2 tsz28 tagg28 tslice28 tbytes28 tzero28 tzv28 tsz29 tagg29 tint29 tund29 tbytes29 tzero29 tzv29 tsz32 tagg32 tarr32 tbytes32 tzero32 tzv32 tplaces32 tfld32_0 tfld32_1 tsz34 tagg34 tarr34 tbytes34 tzero34 tzv34 tplaces34 tfld34_0 tfld34_1 tfld34_2 tsz37 tagg37 tslice37 tbytes37 tzero37 tzv37 tsz39 tagg39 tslice39 tbytes39 tzero39 tzv39 tsz42 tagg42 tarr42 tbytes42 tzero42 tzv42 tplaces42 tfld42_0 tfld42_1 tsz43 tagg43 tarr43 tbytes43 tzero43 tzv43 tplaces43 tfld43_0 tfld43_1 tsz46 tagg46 tarr46 tbytes46 tzero46 tzv46 tplaces46 tfld46_0 tfld46_1 tfld46_2 tfld46_3 tfld46_4 tfld46_5 tsz47 tagg47 tslice47 tbytes47 tzero47 tzv47 tsz48 tagg48 tint48 tund48 tbytes48 tzero48 tzv48 tsz49 tagg49 tslice49 tbytes49 tzero49 tzv49 tsz51 tagg51 tarr51 tbytes51 tzero51 tzv51 tplaces51 tfld51_0 tfld51_1 tfld51_2 tfld51_3 tfld51_4 tfld51_5 tsz54 tagg54 tslice54 tbytes54 tzero54 tzv54 tsz58 tagg58 tarr58 tbytes58 tzero58 tzv58 tplaces58 tfld58_0 tfld58_1 tfld58_2 tsz59 tagg59 tbytes59 tzero59 tzv59 tsz60 tagg60 tbytes60 tzero60 tzv60 tsz70 tagg70 tarr70 tbytes70 tzero70 tzv70 tplaces70 tfld70_0 tfld70_1 tfld70_2 tsz72 tagg72 tbytes72 tzero72 tzv72 tsz73 tagg73 tbytes73 tzero73 tzv73 tsz78 tagg78 tslice78 tbytes78 tzero78 tzv78 tsz80 tagg80 tint80 tund80 tbytes80 tzero80 tzv80 tsz88 tagg88 tslice88 tarr88 tbytes88 tzero88 tzv88 tsz90 tagg90 tarr90 tbytes90 tzero90 tzv90 tplaces90 tfld90_0 tfld90_1 tfld90_2 tfld90_3 tfld90_4 tsz94 tagg94 tslice94 tbytes94 tzero94 tzv94 tsz96 tagg96 tarr96 tbytes96 tzero96 tzv96 tplaces96 tfld96_0 tfld96_1 tfld96_2 tfld96_3 tfld96_4 tsz115 tagg115 tbytes115 tzero115 tzv115 tsz119 tagg119 tbytes119 tzero119 tzv119 tsz122 tagg122 tslice122 tarr122 tbytes122 tzero122 tzv122 tsz123 tagg123 tbytes123 tzero123 tzv123 tsz125 tagg125 tbytes125 tzero125 tzv125 tsz127 tagg127 tslice127 tbytes127 tzero127 tzv127 tsz129 tagg129 tmap129 tbytes129 tzero129 tzv129 tsz130 tagg130 tbytes130 tzero130 tzv130 tsz136 tagg136 tbytes136 tzero136 tzv136 tsz140 tagg140 tbytes140 tzero140 tzv140 tsz142 tagg142 tarr142 tbytes142 tzero142 tzv142 tplaces142 tfld142_0 tfld142_1 tsz152 tagg152 tbytes152 tzero152 tzv152 tsz154 tagg154 tarr154 tbytes154 tzero154 tzv154 tplaces154 tfld154_0 tfld154_1 tsz155 tagg155 tslice155 tbytes155 tzero155 tzv155
end Go.Am

/- Contracts of the alarm functions, part A: small ones. -/
namespace Go.Am
open Go.RowKit Go.Proofs
attribute [local irreducible] AWP CallS Kt goK CallK stepK evOps
set_option maxRecDepth 4000
set_option linter.unusedSimpArgs false
set_option linter.unusedVariables false

theorem within_c (n lo hi : Int) : CallS Try.prog 67 [.int .i64 n, .int .i64 lo, .int .i64 hi] (.bool (decide (lo ≤ n ∧ n ≤ hi))) := by
  (refine callS_of_awp (fun w args => Try.call67 ..) Try.func67 rfl (fun w0 m0 wz => ?_); simp only [Try.ntmps67, Try.results67, initT, junks, sl, List.toList_toArray, List.cons_append, List.nil_append, List.length_cons, List.length_nil, Nat.reduceAdd, Nat.reduceSub])
  (repeat' (first
    | (refine awp_seqK ?_)
    | (refine kt ?_)
    | (refine And.intro ?_ ?_)
    | ((first | refine awp_region ?_ | refine awp_draw (by kernel_rfl) (by kernel_rfl) ?_ | refine Imp.le2 ?_ | refine awp_label ?_ | refine awp_skip ?_ | refine awp_exit ?_ | refine awp_cd ?_ | refine awp_ret ?_); simp (maxSteps := 4000000) only [go_sem, List.append_eq, List.cons_append, List.nil_append, Nat.reduceAdd, Nat.reduceMul, Nat.reduceSub, Nat.reduceLeDiff, Nat.reduceLT, Int.reduceAdd, Int.reduceToNat, Int.reduceLE, Int.reduceLT, Int.reduceNeg, reduceIte])
    | (intro _h)
    | (refine awp_block ?_)
    | (refine awp_scope ?_)
    | (refine go_split (fun _h => ?_) (fun _h => ?_) <;> simp (maxSteps := 4000000) only [go_sem, List.append_eq, List.cons_append, List.nil_append, Nat.reduceAdd, Nat.reduceMul, Nat.reduceSub, Nat.reduceLeDiff, Nat.reduceLT, Int.reduceAdd, Int.reduceToNat, Int.reduceLE, Int.reduceLT, Int.reduceNeg, reduceIte])
    | (show heapOK _ _ = true; kernel_rfl)
    | (omega)))
theorem speed_c (n : Int) : CallS Try.prog 71 [.int .i64 n] (.bool (decide (0 ≤ n ∧ n ≤ 1000))) := by
  (refine callS_of_awp (fun w args => Try.call71 ..) Try.func71 rfl (fun w0 m0 wz => ?_); simp only [Try.ntmps71, Try.results71, initT, junks, sl, List.toList_toArray, List.cons_append, List.nil_append, List.length_cons, List.length_nil, Nat.reduceAdd, Nat.reduceSub])
  (repeat' (first
    | (refine awp_seqK ?_)
    | (refine kt ?_)
    | (refine And.intro ?_ ?_)
    | ((first | refine awp_region ?_ | refine awp_draw (by kernel_rfl) (by kernel_rfl) ?_ | refine Imp.le2 ?_ | refine awp_label ?_ | refine awp_skip ?_ | refine awp_exit ?_ | refine awp_cd ?_ | refine awp_ret ?_); simp (maxSteps := 4000000) only [go_sem, List.append_eq, List.cons_append, List.nil_append, Nat.reduceAdd, Nat.reduceMul, Nat.reduceSub, Nat.reduceLeDiff, Nat.reduceLT, Int.reduceAdd, Int.reduceToNat, Int.reduceLE, Int.reduceLT, Int.reduceNeg, reduceIte])
    | (intro _h)
    | (refine awp_block ?_)
    | (refine awp_scope ?_)
    | ((first | refine callK_of (within_c _ _ _) ?_); try simp (maxSteps := 4000000) only [go_sem, List.append_eq, List.cons_append, List.nil_append, Nat.reduceAdd, Nat.reduceMul, Nat.reduceSub, Nat.reduceLeDiff, Nat.reduceLT, Int.reduceAdd, Int.reduceToNat, Int.reduceLE, Int.reduceLT, Int.reduceNeg, reduceIte])
    | (refine go_split (fun _h => ?_) (fun _h => ?_) <;> simp (maxSteps := 4000000) only [go_sem, List.append_eq, List.cons_append, List.nil_append, Nat.reduceAdd, Nat.reduceMul, Nat.reduceSub, Nat.reduceLeDiff, Nat.reduceLT, Int.reduceAdd, Int.reduceToNat, Int.reduceLE, Int.reduceLT, Int.reduceNeg, reduceIte])
    | (show heapOK _ _ = true; kernel_rfl)
    | (omega)))
theorem max2_c (f : Bool) (a b : Int) : CallS Try.prog 92 [.psl f 2 [.int .i64 a, .int .i64 b]] (.int .i64 (max a b)) := by
  (refine callS_of_awp (fun w args => Try.call92 ..) Try.func92 rfl (fun w0 m0 wz => ?_); simp only [Try.ntmps92, Try.results92, initT, junks, sl, List.toList_toArray, List.cons_append, List.nil_append, List.length_cons, List.length_nil, Nat.reduceAdd, Nat.reduceSub])
  (repeat' (first
    | (refine awp_seqK ?_)
    | (refine kt ?_)
    | (refine And.intro ?_ ?_)
    | ((first | refine awp_region ?_ | refine awp_draw (by kernel_rfl) (by kernel_rfl) ?_ | refine Imp.le2 ?_ | refine awp_label ?_ | refine awp_skip ?_ | refine awp_exit ?_ | refine awp_cd ?_ | refine awp_ret ?_); simp (maxSteps := 4000000) only [go_sem, List.append_eq, List.cons_append, List.nil_append, Nat.reduceAdd, Nat.reduceMul, Nat.reduceSub, Nat.reduceLeDiff, Nat.reduceLT, Int.reduceAdd, Int.reduceToNat, Int.reduceLE, Int.reduceLT, Int.reduceNeg, reduceIte])
    | (intro _h)
    | (refine awp_block ?_)
    | (refine awp_scope ?_)
    | (refine go_split (fun _h => ?_) (fun _h => ?_) <;> simp (maxSteps := 4000000) only [go_sem, List.append_eq, List.cons_append, List.nil_append, Nat.reduceAdd, Nat.reduceMul, Nat.reduceSub, Nat.reduceLeDiff, Nat.reduceLT, Int.reduceAdd, Int.reduceToNat, Int.reduceLE, Int.reduceLT, Int.reduceNeg, reduceIte])
    | (show heapOK _ _ = true; kernel_rfl)
    | (omega)))
  (refine awp_rounds 2 ?_; rw [ar_s])
  (repeat' (first
    | (refine awp_seqK ?_)
    | (refine kt ?_)
    | (refine And.intro ?_ ?_)
    | ((first | refine awp_region ?_ | refine awp_draw (by kernel_rfl) (by kernel_rfl) ?_ | refine Imp.le2 ?_ | refine awp_label ?_ | refine awp_skip ?_ | refine awp_exit ?_ | refine awp_cd ?_ | refine awp_ret ?_); simp (maxSteps := 4000000) only [go_sem, List.append_eq, List.cons_append, List.nil_append, Nat.reduceAdd, Nat.reduceMul, Nat.reduceSub, Nat.reduceLeDiff, Nat.reduceLT, Int.reduceAdd, Int.reduceToNat, Int.reduceLE, Int.reduceLT, Int.reduceNeg, reduceIte])
    | (intro _h)
    | (refine awp_block ?_)
    | (refine awp_scope ?_)
    | (refine go_split (fun _h => ?_) (fun _h => ?_) <;> simp (maxSteps := 4000000) only [go_sem, List.append_eq, List.cons_append, List.nil_append, Nat.reduceAdd, Nat.reduceMul, Nat.reduceSub, Nat.reduceLeDiff, Nat.reduceLT, Int.reduceAdd, Int.reduceToNat, Int.reduceLE, Int.reduceLT, Int.reduceNeg, reduceIte])
    | (show heapOK _ _ = true; kernel_rfl)
    | (omega)))
theorem min2_c (f : Bool) (a b : Int) : CallS Try.prog 99 [.psl f 2 [.int .i64 a, .int .i64 b]] (.int .i64 (min a b)) := by
  (refine callS_of_awp (fun w args => Try.call99 ..) Try.func99 rfl (fun w0 m0 wz => ?_); simp only [Try.ntmps99, Try.results99, initT, junks, sl, List.toList_toArray, List.cons_append, List.nil_append, List.length_cons, List.length_nil, Nat.reduceAdd, Nat.reduceSub])
  (repeat' (first
    | (refine awp_seqK ?_)
    | (refine kt ?_)
    | (refine And.intro ?_ ?_)
    | ((first | refine awp_region ?_ | refine awp_draw (by kernel_rfl) (by kernel_rfl) ?_ | refine Imp.le2 ?_ | refine awp_label ?_ | refine awp_skip ?_ | refine awp_exit ?_ | refine awp_cd ?_ | refine awp_ret ?_); simp (maxSteps := 4000000) only [go_sem, List.append_eq, List.cons_append, List.nil_append, Nat.reduceAdd, Nat.reduceMul, Nat.reduceSub, Nat.reduceLeDiff, Nat.reduceLT, Int.reduceAdd, Int.reduceToNat, Int.reduceLE, Int.reduceLT, Int.reduceNeg, reduceIte])
    | (intro _h)
    | (refine awp_block ?_)
    | (refine awp_scope ?_)
    | (refine go_split (fun _h => ?_) (fun _h => ?_) <;> simp (maxSteps := 4000000) only [go_sem, List.append_eq, List.cons_append, List.nil_append, Nat.reduceAdd, Nat.reduceMul, Nat.reduceSub, Nat.reduceLeDiff, Nat.reduceLT, Int.reduceAdd, Int.reduceToNat, Int.reduceLE, Int.reduceLT, Int.reduceNeg, reduceIte])
    | (show heapOK _ _ = true; kernel_rfl)
    | (omega)))
  (refine awp_rounds 2 ?_; rw [ar_s])
  (repeat' (first
    | (refine awp_seqK ?_)
    | (refine kt ?_)
    | (refine And.intro ?_ ?_)
    | ((first | refine awp_region ?_ | refine awp_draw (by kernel_rfl) (by kernel_rfl) ?_ | refine Imp.le2 ?_ | refine awp_label ?_ | refine awp_skip ?_ | refine awp_exit ?_ | refine awp_cd ?_ | refine awp_ret ?_); simp (maxSteps := 4000000) only [go_sem, List.append_eq, List.cons_append, List.nil_append, Nat.reduceAdd, Nat.reduceMul, Nat.reduceSub, Nat.reduceLeDiff, Nat.reduceLT, Int.reduceAdd, Int.reduceToNat, Int.reduceLE, Int.reduceLT, Int.reduceNeg, reduceIte])
    | (intro _h)
    | (refine awp_block ?_)
    | (refine awp_scope ?_)
    | (refine go_split (fun _h => ?_) (fun _h => ?_) <;> simp (maxSteps := 4000000) only [go_sem, List.append_eq, List.cons_append, List.nil_append, Nat.reduceAdd, Nat.reduceMul, Nat.reduceSub, Nat.reduceLeDiff, Nat.reduceLT, Int.reduceAdd, Int.reduceToNat, Int.reduceLE, Int.reduceLT, Int.reduceNeg, reduceIte])
    | (show heapOK _ _ = true; kernel_rfl)
    | (omega)))
theorem greatest_c (f : Bool) (a b : Int) : CallS Try.prog 75 [.psl f 2 [.int .i64 a, .int .i64 b]] (.int .i64 (max a b)) := by
  (refine callS_of_awp (fun w args => Try.call75 ..) Try.func75 rfl (fun w0 m0 wz => ?_); simp only [Try.ntmps75, Try.results75, initT, junks, sl, List.toList_toArray, List.cons_append, List.nil_append, List.length_cons, List.length_nil, Nat.reduceAdd, Nat.reduceSub])
  (repeat' (first
    | (refine awp_seqK ?_)
    | (refine kt ?_)
    | (refine And.intro ?_ ?_)
    | ((first | refine awp_region ?_ | refine awp_draw (by kernel_rfl) (by kernel_rfl) ?_ | refine Imp.le2 ?_ | refine awp_label ?_ | refine awp_skip ?_ | refine awp_exit ?_ | refine awp_cd ?_ | refine awp_ret ?_); simp (maxSteps := 4000000) only [go_sem, List.append_eq, List.cons_append, List.nil_append, Nat.reduceAdd, Nat.reduceMul, Nat.reduceSub, Nat.reduceLeDiff, Nat.reduceLT, Int.reduceAdd, Int.reduceToNat, Int.reduceLE, Int.reduceLT, Int.reduceNeg, reduceIte])
    | (intro _h)
    | (refine awp_block ?_)
    | (refine awp_scope ?_)
    | ((first | refine callK_of (max2_c _ _ _) ?_); try simp (maxSteps := 4000000) only [go_sem, List.append_eq, List.cons_append, List.nil_append, Nat.reduceAdd, Nat.reduceMul, Nat.reduceSub, Nat.reduceLeDiff, Nat.reduceLT, Int.reduceAdd, Int.reduceToNat, Int.reduceLE, Int.reduceLT, Int.reduceNeg, reduceIte])
    | (refine go_split (fun _h => ?_) (fun _h => ?_) <;> simp (maxSteps := 4000000) only [go_sem, List.append_eq, List.cons_append, List.nil_append, Nat.reduceAdd, Nat.reduceMul, Nat.reduceSub, Nat.reduceLeDiff, Nat.reduceLT, Int.reduceAdd, Int.reduceToNat, Int.reduceLE, Int.reduceLT, Int.reduceNeg, reduceIte])
    | (show heapOK _ _ = true; kernel_rfl)
    | (omega)))
theorem least_c (f : Bool) (a b : Int) : CallS Try.prog 84 [.psl f 2 [.int .i64 a, .int .i64 b]] (.int .i64 (min a b)) := by
  (refine callS_of_awp (fun w args => Try.call84 ..) Try.func84 rfl (fun w0 m0 wz => ?_); simp only [Try.ntmps84, Try.results84, initT, junks, sl, List.toList_toArray, List.cons_append, List.nil_append, List.length_cons, List.length_nil, Nat.reduceAdd, Nat.reduceSub])
  (repeat' (first
    | (refine awp_seqK ?_)
    | (refine kt ?_)
    | (refine And.intro ?_ ?_)
    | ((first | refine awp_region ?_ | refine awp_draw (by kernel_rfl) (by kernel_rfl) ?_ | refine Imp.le2 ?_ | refine awp_label ?_ | refine awp_skip ?_ | refine awp_exit ?_ | refine awp_cd ?_ | refine awp_ret ?_); simp (maxSteps := 4000000) only [go_sem, List.append_eq, List.cons_append, List.nil_append, Nat.reduceAdd, Nat.reduceMul, Nat.reduceSub, Nat.reduceLeDiff, Nat.reduceLT, Int.reduceAdd, Int.reduceToNat, Int.reduceLE, Int.reduceLT, Int.reduceNeg, reduceIte])
    | (intro _h)
    | (refine awp_block ?_)
    | (refine awp_scope ?_)
    | ((first | refine callK_of (min2_c _ _ _) ?_); try simp (maxSteps := 4000000) only [go_sem, List.append_eq, List.cons_append, List.nil_append, Nat.reduceAdd, Nat.reduceMul, Nat.reduceSub, Nat.reduceLeDiff, Nat.reduceLT, Int.reduceAdd, Int.reduceToNat, Int.reduceLE, Int.reduceLT, Int.reduceNeg, reduceIte])
    | (refine go_split (fun _h => ?_) (fun _h => ?_) <;> simp (maxSteps := 4000000) only [go_sem, List.append_eq, List.cons_append, List.nil_append, Nat.reduceAdd, Nat.reduceMul, Nat.reduceSub, Nat.reduceLeDiff, Nat.reduceLT, Int.reduceAdd, Int.reduceToNat, Int.reduceLE, Int.reduceLT, Int.reduceNeg, reduceIte])
    | (show heapOK _ _ = true; kernel_rfl)
    | (omega)))
theorem nothing_c : CallS Try.prog 91 [] (.agg [.int .i64 1, .int .i64 0]) := by
  (refine callS_of_awp (fun w args => Try.call91 ..) Try.func91 rfl (fun w0 m0 wz => ?_); simp only [Try.ntmps91, Try.results91, initT, junks, sl, List.toList_toArray, List.cons_append, List.nil_append, List.length_cons, List.length_nil, Nat.reduceAdd, Nat.reduceSub])
  (repeat' (first
    | (refine awp_seqK ?_)
    | (refine kt ?_)
    | (refine And.intro ?_ ?_)
    | ((first | refine awp_region ?_ | refine awp_draw (by kernel_rfl) (by kernel_rfl) ?_ | refine Imp.le2 ?_ | refine awp_label ?_ | refine awp_skip ?_ | refine awp_exit ?_ | refine awp_cd ?_ | refine awp_ret ?_); simp (maxSteps := 4000000) only [go_sem, List.append_eq, List.cons_append, List.nil_append, Nat.reduceAdd, Nat.reduceMul, Nat.reduceSub, Nat.reduceLeDiff, Nat.reduceLT, Int.reduceAdd, Int.reduceToNat, Int.reduceLE, Int.reduceLT, Int.reduceNeg, reduceIte])
    | (intro _h)
    | (refine awp_block ?_)
    | (refine awp_scope ?_)
    | (refine go_split (fun _h => ?_) (fun _h => ?_) <;> simp (maxSteps := 4000000) only [go_sem, List.append_eq, List.cons_append, List.nil_append, Nat.reduceAdd, Nat.reduceMul, Nat.reduceSub, Nat.reduceLeDiff, Nat.reduceLT, Int.reduceAdd, Int.reduceToNat, Int.reduceLE, Int.reduceLT, Int.reduceNeg, reduceIte])
    | (show heapOK _ _ = true; kernel_rfl)
    | (omega)))

end Go.Am

/- Contracts of the alarm functions: lists of which each element is right. -/
namespace Go.Am
open Go.RowKit Go.Proofs
attribute [local irreducible] AWP CallS Kt goK CallK stepK evOps
set_option maxRecDepth 4000
set_option linter.unusedSimpArgs false
set_option linter.unusedVariables false
set_option maxHeartbeats 400000

/-- The place of the first one, or -1. -/
def idxOf {α : Type} (q : α → Bool) (l : List α) : Int := match l.findIdx? q with | some i => i | none => -1
theorem idxOf_some {α : Type} {q : α → Bool} {l : List α} {d : α} {i : Nat} (hi : i < l.length) (h : q (l.getD i d) = true) (hj : ∀ j, j < i → q (l.getD j d) = false) : (i : Int) = idxOf q l := by
  have : l.findIdx? q = some i := by
    rw [List.findIdx?_eq_some_iff_getElem]
    refine ⟨hi, by simpa [List.getD_eq_getElem?_getD, hi] using h, fun j hji => ?_⟩
    have := hj j hji
    simpa [List.getD_eq_getElem?_getD, Nat.lt_trans hji hi] using this
  simp [idxOf, this]
theorem idxOf_none {α : Type} {q : α → Bool} {l : List α} {d : α} (hj : ∀ j, j < l.length → q (l.getD j d) = false) : -1 = idxOf q l := by
  have : l.findIdx? q = none := by
    rw [List.findIdx?_eq_none_iff]
    intro x hx
    obtain ⟨j, hjl, rfl⟩ := List.mem_iff_getElem.1 hx
    have := hj j hjl
    simpa [List.getD_eq_getElem?_getD, hjl] using this
  simp [idxOf, this]
theorem idxOf_ge {α : Type} {q : α → Bool} {l : List α} : decide (0 ≤ idxOf q l) = l.any q := by
  unfold idxOf
  cases h : l.findIdx? q with
  | none =>
    rw [List.findIdx?_eq_none_iff] at h
    have : l.any q = false := by rw [List.any_eq_false]; intro x hx; simp [h x hx]
    simp [this]
  | some i =>
    rw [List.findIdx?_eq_some_iff_getElem] at h
    obtain ⟨h1, h2, _⟩ := h
    have : l.any q = true := by rw [List.any_eq_true]; exact ⟨_, List.getElem_mem h1, h2⟩
    simp [this]

theorem idx_int (l : List Int) (g : FuncId) (fv : AV) (q : Int → Bool) (hl : l.length ≤ 9223372036854775807) (hq : ∀ i, i < l.length → CallS Try.prog g [.int .i64 (l.getD i 0), .pptr [fv] 0] (.bool (q (l.getD i 0)))) :
    CallS Try.prog 103 [sl l, .fn (.func g) [] [.pptr [fv] 0]] (.int .i64 (idxOf q l)) := by
  (refine callS_of_awp (fun w args => Try.call103 ..) Try.func103 rfl (fun w0 m0 wz => ?_); simp only [Try.ntmps103, Try.results103, initT, junks, sl, List.toList_toArray, List.cons_append, List.nil_append, List.length_cons, List.length_nil, Nat.reduceAdd, Nat.reduceSub])
  (repeat' (first
    | (refine awp_seqK ?_)
    | (refine kt ?_)
    | (refine And.intro ?_ ?_)
    | ((first | refine awp_region ?_ | refine awp_draw (by kernel_rfl) (by kernel_rfl) ?_ | refine Imp.le2 ?_ | refine awp_label ?_ | refine awp_skip ?_ | refine awp_exit ?_ | refine awp_cd ?_ | refine awp_ret ?_); simp (maxSteps := 4000000) only [go_sem, List.append_eq, List.cons_append, List.nil_append, Nat.reduceAdd, Nat.reduceMul, Nat.reduceSub, Nat.reduceLeDiff, Nat.reduceLT, Int.reduceAdd, Int.reduceToNat, Int.reduceLE, Int.reduceLT, Int.reduceNeg, reduceIte])
    | (intro _h)
    | (refine awp_block ?_)
    | (refine awp_scope ?_)
    | (refine go_split (fun _h => ?_) (fun _h => ?_) <;> simp (maxSteps := 4000000) only [go_sem, List.append_eq, List.cons_append, List.nil_append, Nat.reduceAdd, Nat.reduceMul, Nat.reduceSub, Nat.reduceLeDiff, Nat.reduceLT, Int.reduceAdd, Int.reduceToNat, Int.reduceLE, Int.reduceLT, Int.reduceNeg, reduceIte])
    | (show heapOK _ _ = true; kernel_rfl)
    | (omega)))
  refine awp_loopJ (fun i : Nat => i ≤ l.length ∧ ∀ j, j < i → q (l.getD j 0) = false) (fun i => ⟨mkT 19 [(0, sl l), (1, .fn (.func g) [] [.pptr [fv] 0]), (6, sl l), (7, .int .i64 l.length), (8, .int .i64 i)], [], []⟩) (fun i => l.length - i) 0 ⟨Nat.zero_le _, by simp⟩ (.le2 ?_) ?_
  · simp (maxSteps := 4000000) only [go_sem, List.append_eq, List.cons_append, List.nil_append, Nat.reduceAdd, Nat.reduceMul, Nat.reduceSub, Nat.reduceLeDiff, Nat.reduceLT, Int.reduceAdd, Int.reduceToNat, Int.reduceLE, Int.reduceLT, Int.reduceNeg, reduceIte]
  · rintro i ⟨hi, hj⟩
    simp (maxSteps := 4000000) only [go_sem, List.append_eq, List.cons_append, List.nil_append, Nat.reduceAdd, Nat.reduceMul, Nat.reduceSub, Nat.reduceLeDiff, Nat.reduceLT, Int.reduceAdd, Int.reduceToNat, Int.reduceLE, Int.reduceLT, Int.reduceNeg, reduceIte]
    (repeat' (first
    | (refine awp_seqK ?_)
    | (refine kt ?_)
    | (refine And.intro ?_ ?_)
    | ((first | refine awp_region ?_ | refine awp_draw (by kernel_rfl) (by kernel_rfl) ?_ | refine Imp.le2 ?_ | refine awp_label ?_ | refine awp_skip ?_ | refine awp_exit ?_ | refine awp_cd ?_ | refine awp_ret ?_); simp (maxSteps := 4000000) only [go_sem, List.append_eq, List.cons_append, List.nil_append, Nat.reduceAdd, Nat.reduceMul, Nat.reduceSub, Nat.reduceLeDiff, Nat.reduceLT, Int.reduceAdd, Int.reduceToNat, Int.reduceLE, Int.reduceLT, Int.reduceNeg, reduceIte])
    | (intro _h)
    | (refine awp_block ?_)
    | (refine awp_scope ?_)
    | ((first | refine callK_of (hq i (by omega)) ?_); try simp (maxSteps := 4000000) only [go_sem, List.append_eq, List.cons_append, List.nil_append, Nat.reduceAdd, Nat.reduceMul, Nat.reduceSub, Nat.reduceLeDiff, Nat.reduceLT, Int.reduceAdd, Int.reduceToNat, Int.reduceLE, Int.reduceLT, Int.reduceNeg, reduceIte])
    | (refine go_split (fun _h => ?_) (fun _h => ?_) <;> simp (maxSteps := 4000000) only [go_sem, List.append_eq, List.cons_append, List.nil_append, Nat.reduceAdd, Nat.reduceMul, Nat.reduceSub, Nat.reduceLeDiff, Nat.reduceLT, Int.reduceAdd, Int.reduceToNat, Int.reduceLE, Int.reduceLT, Int.reduceNeg, reduceIte])
    | (show heapOK _ _ = true; kernel_rfl)
    | (omega)))
    · exact idxOf_some (by omega) ‹_› hj
    · refine ⟨i + 1, ⟨by omega, fun j hji => ?_⟩, by omega, .le2 ?_⟩
      · rcases Nat.lt_succ_iff_lt_or_eq.1 hji with h | rfl
        · exact hj j h
        · assumption
      · simp (maxSteps := 4000000) only [go_sem, List.append_eq, List.cons_append, List.nil_append, Nat.reduceAdd, Nat.reduceMul, Nat.reduceSub, Nat.reduceLeDiff, Nat.reduceLT, Int.reduceAdd, Int.reduceToNat, Int.reduceLE, Int.reduceLT, Int.reduceNeg, reduceIte]
        omega
    · exact idxOf_none (d := 0) (fun j hjl => hj j (by omega))
theorem has_int (l : List Int) (g : FuncId) (fv : AV) (q : Int → Bool) (hl : l.length ≤ 9223372036854775807) (hq : ∀ i, i < l.length → CallS Try.prog g [.int .i64 (l.getD i 0), .pptr [fv] 0] (.bool (q (l.getD i 0)))) :
    CallS Try.prog 97 [sl l, .fn (.func g) [] [.pptr [fv] 0]] (.bool (l.any q)) := by
  rw [← idxOf_ge]
  (refine callS_of_awp (fun w args => Try.call97 ..) Try.func97 rfl (fun w0 m0 wz => ?_); simp only [Try.ntmps97, Try.results97, initT, junks, sl, List.toList_toArray, List.cons_append, List.nil_append, List.length_cons, List.length_nil, Nat.reduceAdd, Nat.reduceSub])
  (repeat' (first
    | (refine awp_seqK ?_)
    | (refine kt ?_)
    | (refine And.intro ?_ ?_)
    | ((first | refine awp_region ?_ | refine awp_draw (by kernel_rfl) (by kernel_rfl) ?_ | refine Imp.le2 ?_ | refine awp_label ?_ | refine awp_skip ?_ | refine awp_exit ?_ | refine awp_cd ?_ | refine awp_ret ?_); simp (maxSteps := 4000000) only [go_sem, List.append_eq, List.cons_append, List.nil_append, Nat.reduceAdd, Nat.reduceMul, Nat.reduceSub, Nat.reduceLeDiff, Nat.reduceLT, Int.reduceAdd, Int.reduceToNat, Int.reduceLE, Int.reduceLT, Int.reduceNeg, reduceIte])
    | (intro _h)
    | (refine awp_block ?_)
    | (refine awp_scope ?_)
    | ((first | refine callK_of (idx_int l g fv q hl hq) ?_); try simp (maxSteps := 4000000) only [go_sem, List.append_eq, List.cons_append, List.nil_append, Nat.reduceAdd, Nat.reduceMul, Nat.reduceSub, Nat.reduceLeDiff, Nat.reduceLT, Int.reduceAdd, Int.reduceToNat, Int.reduceLE, Int.reduceLT, Int.reduceNeg, reduceIte])
    | (refine go_split (fun _h => ?_) (fun _h => ?_) <;> simp (maxSteps := 4000000) only [go_sem, List.append_eq, List.cons_append, List.nil_append, Nat.reduceAdd, Nat.reduceMul, Nat.reduceSub, Nat.reduceLeDiff, Nat.reduceLT, Int.reduceAdd, Int.reduceToNat, Int.reduceLE, Int.reduceLT, Int.reduceNeg, reduceIte])
    | (show heapOK _ _ = true; kernel_rfl)
    | (omega)))
theorem all1_int (n : Int) (f : FuncId) (q : Bool) (hq : CallS Try.prog f [.int .i64 n] (.bool q)) : CallS Try.prog 98 [.int .i64 n, .pptr [.fn (.func f) [] []] 0] (.bool (!q)) := by
  (refine callS_of_awp (fun w args => Try.call98 ..) Try.func98 rfl (fun w0 m0 wz => ?_); simp only [Try.ntmps98, Try.results98, initT, junks, sl, List.toList_toArray, List.cons_append, List.nil_append, List.length_cons, List.length_nil, Nat.reduceAdd, Nat.reduceSub])
  (repeat' (first
    | (refine awp_seqK ?_)
    | (refine kt ?_)
    | (refine And.intro ?_ ?_)
    | ((first | refine awp_region ?_ | refine awp_draw (by kernel_rfl) (by kernel_rfl) ?_ | refine Imp.le2 ?_ | refine awp_label ?_ | refine awp_skip ?_ | refine awp_exit ?_ | refine awp_cd ?_ | refine awp_ret ?_); simp (maxSteps := 4000000) only [go_sem, List.append_eq, List.cons_append, List.nil_append, Nat.reduceAdd, Nat.reduceMul, Nat.reduceSub, Nat.reduceLeDiff, Nat.reduceLT, Int.reduceAdd, Int.reduceToNat, Int.reduceLE, Int.reduceLT, Int.reduceNeg, reduceIte])
    | (intro _h)
    | (refine awp_block ?_)
    | (refine awp_scope ?_)
    | ((first | refine callK_of (hq) ?_); try simp (maxSteps := 4000000) only [go_sem, List.append_eq, List.cons_append, List.nil_append, Nat.reduceAdd, Nat.reduceMul, Nat.reduceSub, Nat.reduceLeDiff, Nat.reduceLT, Int.reduceAdd, Int.reduceToNat, Int.reduceLE, Int.reduceLT, Int.reduceNeg, reduceIte])
    | (refine go_split (fun _h => ?_) (fun _h => ?_) <;> simp (maxSteps := 4000000) only [go_sem, List.append_eq, List.cons_append, List.nil_append, Nat.reduceAdd, Nat.reduceMul, Nat.reduceSub, Nat.reduceLeDiff, Nat.reduceLT, Int.reduceAdd, Int.reduceToNat, Int.reduceLE, Int.reduceLT, Int.reduceNeg, reduceIte])
    | (show heapOK _ _ = true; kernel_rfl)
    | (omega))) <;> simp [*]
theorem all_int (l : List Int) (f : FuncId) (q : Int → Bool) (hl : l.length ≤ 9223372036854775807) (hq : ∀ i, i < l.length → CallS Try.prog f [.int .i64 (l.getD i 0)] (.bool (q (l.getD i 0)))) :
    CallS Try.prog 82 [sl l, .fn (.func f) [] []] (.bool (l.all q)) := by
  have hany : l.all q = !l.any (fun x => !q x) := by simp [List.all_eq_not_any_not]
  rw [hany]
  (refine callS_of_awp (fun w args => Try.call82 ..) Try.func82 rfl (fun w0 m0 wz => ?_); simp only [Try.ntmps82, Try.results82, initT, junks, sl, List.toList_toArray, List.cons_append, List.nil_append, List.length_cons, List.length_nil, Nat.reduceAdd, Nat.reduceSub])
  ((repeat refine awp_seqK ?_); refine awp_region ?_; simp (maxSteps := 4000000) only [go_sem, List.append_eq, List.cons_append, List.nil_append, Nat.reduceAdd, Nat.reduceMul, Nat.reduceSub, Nat.reduceLeDiff, Nat.reduceLT, Int.reduceAdd, Int.reduceToNat, Int.reduceLE, Int.reduceLT, Int.reduceNeg, reduceIte]; refine kt ?_)
  (refine awp_frz 0 rfl (by simp (maxSteps := 4000000) only [go_sem, List.append_eq, List.cons_append, List.nil_append, Nat.reduceAdd, Nat.reduceMul, Nat.reduceSub, Nat.reduceLeDiff, Nat.reduceLT, Int.reduceAdd, Int.reduceToNat, Int.reduceLE, Int.reduceLT, Int.reduceNeg, reduceIte]) (fun _ => rfl) ?_; simp only [frz, fzl, fz2, fz1, fz0, fzH, fzHs, fzO, fzB, List.map_cons, List.map_nil, if_true, if_false, reduceIte, Nat.reduceEqDiff, Nat.reduceAdd, Nat.succ_ne_self, Nat.zero_ne_one, Nat.one_ne_zero, reduceCtorEq, and_self])
  (repeat' (first
    | (refine awp_seqK ?_)
    | (refine kt ?_)
    | (refine And.intro ?_ ?_)
    | ((first | refine awp_region ?_ | refine awp_draw (by kernel_rfl) (by kernel_rfl) ?_ | refine Imp.le2 ?_ | refine awp_label ?_ | refine awp_skip ?_ | refine awp_exit ?_ | refine awp_cd ?_ | refine awp_ret ?_); simp (maxSteps := 4000000) only [go_sem, List.append_eq, List.cons_append, List.nil_append, Nat.reduceAdd, Nat.reduceMul, Nat.reduceSub, Nat.reduceLeDiff, Nat.reduceLT, Int.reduceAdd, Int.reduceToNat, Int.reduceLE, Int.reduceLT, Int.reduceNeg, reduceIte])
    | (intro _h)
    | (refine awp_block ?_)
    | (refine awp_scope ?_)
    | ((first | refine callK_of (has_int l 98 (.fn (.func f) [] []) (fun x => !q x) hl (fun i hi => all1_int _ _ _ (hq i hi))) ?_); try simp (maxSteps := 4000000) only [go_sem, List.append_eq, List.cons_append, List.nil_append, Nat.reduceAdd, Nat.reduceMul, Nat.reduceSub, Nat.reduceLeDiff, Nat.reduceLT, Int.reduceAdd, Int.reduceToNat, Int.reduceLE, Int.reduceLT, Int.reduceNeg, reduceIte])
    | (refine go_split (fun _h => ?_) (fun _h => ?_) <;> simp (maxSteps := 4000000) only [go_sem, List.append_eq, List.cons_append, List.nil_append, Nat.reduceAdd, Nat.reduceMul, Nat.reduceSub, Nat.reduceLeDiff, Nat.reduceLT, Int.reduceAdd, Int.reduceToNat, Int.reduceLE, Int.reduceLT, Int.reduceNeg, reduceIte])
    | (show heapOK _ _ = true; kernel_rfl)
    | (omega))) <;> simp only [*, Bool.not_true, Bool.not_false]
end Go.Am

/- Plain words for the alarms: seasons, rules, spells, prices. No program is in sight. -/
namespace Go.Am
structure Rule where
  start : Int
  back : Int
  hold : Int
structure Season where
  speeds : List Int
  fell : Bool
instance : Inhabited Season := ⟨⟨[], false⟩⟩

def speedB (n : Int) : Bool := decide (0 ≤ n ∧ n ≤ 1000)
def ruleB (r : Rule) : Bool := decide ((0 ≤ r.start ∧ r.start ≤ 1000) ∧ (0 ≤ r.back ∧ r.back ≤ r.start) ∧ 1 ≤ r.hold ∧ r.hold ≤ 60)
/-- The error of seasons. -/
def faultS (l : List Season) : Int :=
  if 10 < l.length then 3 else if (l.all fun s => decide (s.speeds.length ≤ 60)) = false then 3 else if (l.all fun s => s.speeds.all speedB) = false then 1 else 0

/-- The alarm goes on as long as the speed is not below back. -/
def stretch (sp : List Int) (back : Int) : Nat → Nat → Nat
  | 0, to => to
  | f + 1, to => if to < sp.length ∧ back ≤ sp.getD to 0 then stretch sp back f (to + 1) else to
def stretchTo (sp : List Int) (back : Int) (to : Nat) : Nat := stretch sp back (sp.length - to) to
theorem stretch_out {sp : List Int} {back : Int} : ∀ (f to : Nat), sp.length ≤ to → stretch sp back f to = to
  | 0, _, _ => rfl
  | f + 1, to, h => by simp only [stretch]; rw [if_neg (by omega)]
theorem stretchTo_step {sp : List Int} {back : Int} {to : Nat} (h1 : to < sp.length) (h2 : back ≤ sp.getD to 0) : stretchTo sp back to = stretchTo sp back (to + 1) := by
  unfold stretchTo
  rw [show sp.length - to = (sp.length - (to + 1)) + 1 by omega]
  simp only [stretch]
  rw [if_pos ⟨h1, h2⟩]
theorem stretchTo_stop {sp : List Int} {back : Int} {to : Nat} (h : sp.length ≤ to ∨ sp.getD to 0 < back) : stretchTo sp back to = to := by
  unfold stretchTo
  cases hf : sp.length - to with
  | zero => rfl
  | succ f => simp only [stretch]; rw [if_neg (by omega)]
theorem stretch_ge {sp : List Int} {back : Int} : ∀ (f to : Nat), to ≤ stretch sp back f to ∧ (to ≤ sp.length → stretch sp back f to ≤ sp.length)
  | 0, to => ⟨Nat.le_refl _, fun h => h⟩
  | f + 1, to => by
    simp only [stretch]
    split
    · have := stretch_ge (sp := sp) (back := back) f (to + 1)
      exact ⟨by omega, fun _ => this.2 (by omega)⟩
    · exact ⟨Nat.le_refl _, fun h => h⟩
theorem stretchTo_ge {sp : List Int} {back : Int} {to : Nat} : to ≤ stretchTo sp back to := (stretch_ge _ _).1
theorem stretchTo_le {sp : List Int} {back : Int} {to : Nat} (h : to ≤ sp.length) : stretchTo sp back to ≤ sp.length := (stretch_ge _ _).2 h
/-- Where an alarm that begins at h ends. -/
def endAt (sp : List Int) (r : Rule) (h : Nat) : Nat := stretchTo sp r.back (min ((h : Int) + r.hold) sp.length).toNat
theorem endAt_gt {sp : List Int} {r : Rule} {h : Nat} (hh : h < sp.length) (hr : 1 ≤ r.hold) : h < endAt sp r h := by
  have := stretchTo_ge (sp := sp) (back := r.back) (to := (min ((h : Int) + r.hold) sp.length).toNat)
  unfold endAt
  omega
theorem endAt_le {sp : List Int} {r : Rule} {h : Nat} : endAt sp r h ≤ sp.length := stretchTo_le (by omega)

/-- The spells from hour h on, behind some others. -/
def spellsFrom (sp : List Int) (r : Rule) : Nat → Nat → List (Nat × Nat) → List (Nat × Nat)
  | 0, _, out => out
  | f + 1, h, out => if h < sp.length then (if sp.getD h 0 < r.start then spellsFrom sp r f (h + 1) out else spellsFrom sp r f (endAt sp r h) (out ++ [(h, endAt sp r h)])) else out
def spells (sp : List Int) (r : Rule) : List (Nat × Nat) := spellsFrom sp r sp.length 0 []
theorem spellsFrom_out {sp : List Int} {r : Rule} : ∀ (f h : Nat) (out : List (Nat × Nat)), sp.length ≤ h → spellsFrom sp r f h out = out
  | 0, _, _, _ => rfl
  | f + 1, h, out, hh => by simp only [spellsFrom]; rw [if_neg (by omega)]
/-- Fuel that is enough. -/
def SpAt (sp : List Int) (r : Rule) (h : Nat) (out : List (Nat × Nat)) : Prop := ∃ f, sp.length - h ≤ f ∧ spellsFrom sp r f h out = spells sp r
theorem spAt_zero {sp : List Int} {r : Rule} : SpAt sp r 0 [] := ⟨sp.length, by omega, rfl⟩
theorem spAt_low {sp : List Int} {r : Rule} {h : Nat} {out : List (Nat × Nat)} (s : SpAt sp r h out) (hh : h < sp.length) (hl : sp.getD h 0 < r.start) : SpAt sp r (h + 1) out := by
  obtain ⟨f, h1, h2⟩ := s
  cases f with
  | zero => omega
  | succ f =>
    simp only [spellsFrom] at h2
    rw [if_pos hh, if_pos hl] at h2
    exact ⟨f, by omega, h2⟩
theorem spAt_on {sp : List Int} {r : Rule} {h : Nat} {out : List (Nat × Nat)} (s : SpAt sp r h out) (hh : h < sp.length) (hl : ¬ sp.getD h 0 < r.start) (hr : 1 ≤ r.hold) : SpAt sp r (endAt sp r h) (out ++ [(h, endAt sp r h)]) := by
  obtain ⟨f, h1, h2⟩ := s
  cases f with
  | zero => omega
  | succ f =>
    simp only [spellsFrom] at h2
    rw [if_pos hh, if_neg hl] at h2
    have := endAt_gt hh hr
    exact ⟨f, by omega, h2⟩
theorem spAt_end {sp : List Int} {r : Rule} {h : Nat} {out : List (Nat × Nat)} (s : SpAt sp r h out) (hh : sp.length ≤ h) : out = spells sp r := by
  obtain ⟨f, _, h2⟩ := s
  rw [spellsFrom_out f h out hh] at h2
  exact h2
/-- How many spells there are behind some. -/
theorem spellsFrom_length {sp : List Int} {r : Rule} : ∀ (f h : Nat) (out : List (Nat × Nat)), out.length ≤ (spellsFrom sp r f h out).length
  | 0, _, _ => Nat.le_refl _
  | f + 1, h, out => by
    simp only [spellsFrom]
    split
    · split
      · exact spellsFrom_length f _ _
      · have := spellsFrom_length (sp := sp) (r := r) f (endAt sp r h) (out ++ [(h, endAt sp r h)])
        simp at this; omega
    · exact Nat.le_refl _

theorem spellsFrom_le {sp : List Int} {r : Rule} : ∀ (f h : Nat) (out : List (Nat × Nat)), (spellsFrom sp r f h out).length ≤ out.length + f
  | 0, _, _ => Nat.le_refl _
  | f + 1, h, out => by
    simp only [spellsFrom]
    split
    · split
      · have := spellsFrom_le (sp := sp) (r := r) f (h + 1) out; omega
      · have := spellsFrom_le (sp := sp) (r := r) f (endAt sp r h) (out ++ [(h, endAt sp r h)])
        simp at this; omega
    · omega
theorem spells_le {sp : List Int} {r : Rule} : (spells sp r).length ≤ sp.length := by
  have := spellsFrom_le (sp := sp) (r := r) sp.length 0 []
  simpa [spells] using this
theorem faultS_zero {l : List Season} (h : faultS l = 0) : l.length ≤ 10 ∧ (∀ s ∈ l, s.speeds.length ≤ 60) ∧ ∀ s ∈ l, ∀ n ∈ s.speeds, 0 ≤ n ∧ n ≤ 1000 := by
  unfold faultS at h
  split at h
  · omega
  · split at h
    · omega
    · split at h
      · omega
      · rename_i h1 h2 h3
        simp only [Bool.not_eq_false, List.all_eq_true, decide_eq_true_eq, speedB] at h2 h3
        exact ⟨by omega, h2, h3⟩
theorem ruleB_true {r : Rule} (h : ruleB r = true) : (0 ≤ r.start ∧ r.start ≤ 1000) ∧ (0 ≤ r.back ∧ r.back ≤ r.start) ∧ 1 ≤ r.hold ∧ r.hold ≤ 60 := of_decide_eq_true h
/-- The error of Spells, and the spells. -/
def errSp (s : Season) (r : Rule) : Int := if faultS [s] = 0 then (if ruleB r = true then 0 else 2) else faultS [s]
def spellsOf (s : Season) (r : Rule) : List (Nat × Nat) := if faultS [s] = 0 ∧ ruleB r = true then spells s.speeds r else []
end Go.Am

/- Contracts of the alarm functions: rules, seasons. -/
namespace Go.Am
open Go.RowKit Go.Proofs
attribute [local irreducible] AWP CallS Kt goK CallK stepK evOps
set_option maxRecDepth 4000
set_option linter.unusedSimpArgs false
set_option linter.unusedVariables false
set_option maxHeartbeats 400000

def ruleC (r : Rule) : List AV := [.int .i64 r.start, .int .i64 r.back, .int .i64 r.hold]
def seasonC (s : Season) : List AV := [sl s.speeds, .bool s.fell]
/-- A list of seasons. -/
def slS (l : List Season) : AV := .psl false l.length (recs seasonC l)
section
variable {α : Type} {enc : α → List AV} {sz : Nat} {l : List α} {d : α} {P : Program} {t : TypeId}
theorem ld_recs (ht : tagg P t = some true) (hs : tsz P t = some sz) (he : ∀ a, (enc a).length = sz) (hz : 0 < sz) {i : Nat} {K : AV → Prop} : loadK P t (recs enc l) (i * sz) K = (i < l.length ∧ K (.agg (enc (l.getD i d)))) := by
  simp only [loadK, ht, hs, recs_length he]
  by_cases hi : i < l.length
  · have : i * sz + sz ≤ l.length * sz := by
      rw [show i * sz + sz = (i + 1) * sz by rw [Nat.add_mul, Nat.one_mul]]; exact Nat.mul_le_mul_right _ hi
    rw [recs_window (d := d) he hi]
    simp [this, hi]
  · have : ¬ i * sz + sz ≤ l.length * sz := by
      intro h
      rw [show i * sz + sz = (i + 1) * sz by rw [Nat.add_mul, Nat.one_mul]] at h
      have := Nat.le_of_mul_le_mul_right h hz
      omega
    simp [this, hi]
theorem nth_recs (he : ∀ a, (enc a).length = sz) {i o : Nat} (ho : o < sz) {K : AV → Prop} : optK (nth (recs enc l) (i * sz + o)) K = (i < l.length ∧ optK (nth (enc (l.getD i d)) o) K) := by
  by_cases hi : i < l.length
  · rw [recs_nth (d := d) he hi ho]; simp [hi]
  · have : nth (recs enc l) (i * sz + o) = none := by
      rw [← nth_is, List.getElem?_eq_none]
      rw [recs_length he]
      have := Nat.mul_le_mul_right sz (Nat.le_of_not_lt hi)
      omega
    simp [this, hi, optK]
end
theorem pl_S {l : List Season} : pureL (recs seasonC l) = True := eq_true (recs_pure fun s => by simp [pureL, seasonC, sl, cellPure])
theorem lv_S {l : List Season} {p : Nat → Bool} : (recs seasonC l).all (live2 p) = true := recs_live fun s => by simp [pureL, seasonC, sl, cellPure]
theorem len_S {l : List Season} : (recs seasonC l).length = l.length * 2 := recs_length fun _ => rfl
theorem ld_S32 {l : List Season} {i : Nat} {K : AV → Prop} : loadK Try.prog 32 (recs seasonC l) (i * 2) K = (i < l.length ∧ K (.agg (seasonC (l.getD i default)))) := ld_recs tagg32 tsz32 (fun _ => rfl) (by omega)
theorem ld_S24 {l : List Season} {i : Nat} {K : AV → Prop} : loadK Try.prog 24 (recs seasonC l) (i * 2) K = (i < l.length ∧ K (.agg (seasonC (l.getD i default)))) := ld_recs tagg24 tsz24 (fun _ => rfl) (by omega)
theorem nth_S0 {l : List Season} {i : Nat} {K : AV → Prop} : optK (nth (recs seasonC l) (i * 2)) K = (i < l.length ∧ K (sl (l.getD i default).speeds)) := nth_recs (sz := 2) (o := 0) (fun _ => rfl) (by omega)
theorem nth_S1 {l : List Season} {i : Nat} {K : AV → Prop} : optK (nth (recs seasonC l) (i * 2 + 1)) K = (i < l.length ∧ K (.bool (l.getD i default).fell)) := nth_recs (sz := 2) (o := 1) (fun _ => rfl) (by omega)
attribute [go_sem] pl_S lv_S len_S nth_S0 nth_S1
attribute [go_sem ↓] ld_S32 ld_S24

theorem list_c (l : List Int) (hl : l.length ≤ 1000000) : CallS Try.prog 39 [sl l] (sl l) := by
  (refine callS_of_awp (fun w args => Try.call39 ..) Try.func39 rfl (fun w0 m0 wz => ?_); simp only [Try.ntmps39, Try.results39, initT, junks, ruleC, seasonC, slS, sl, List.toList_toArray, List.cons_append, List.nil_append, List.length_cons, List.length_nil, Nat.reduceAdd, Nat.reduceSub])
  (repeat' (first
    | (refine awp_seqK ?_)
    | (refine kt ?_)
    | (refine And.intro ?_ ?_)
    | ((first | refine awp_region ?_ | refine awp_draw (by kernel_rfl) (by kernel_rfl) ?_ | refine Imp.le2 ?_ | refine awp_label ?_ | refine awp_skip ?_ | refine awp_exit ?_ | refine awp_cd ?_ | refine awp_ret ?_); simp (maxSteps := 4000000) only [go_sem, List.append_eq, List.cons_append, List.nil_append, Nat.reduceAdd, Nat.reduceMul, Nat.reduceSub, Nat.reduceLeDiff, Nat.reduceLT, Int.reduceAdd, Int.reduceToNat, Int.reduceLE, Int.reduceLT, Int.reduceNeg, reduceIte, ruleC, seasonC, slS])
    | (intro _h)
    | (refine awp_block ?_)
    | (refine awp_scope ?_)
    | (refine go_split (fun _h => ?_) (fun _h => ?_) <;> simp (maxSteps := 4000000) only [go_sem, List.append_eq, List.cons_append, List.nil_append, Nat.reduceAdd, Nat.reduceMul, Nat.reduceSub, Nat.reduceLeDiff, Nat.reduceLT, Int.reduceAdd, Int.reduceToNat, Int.reduceLE, Int.reduceLT, Int.reduceNeg, reduceIte, ruleC, seasonC, slS])
    | (show heapOK _ _ = true; kernel_rfl)
    | (omega)))
theorem in_c (n lo hi : Int) : CallS Try.prog 45 [.int .i64 n, .int .i64 lo, .int .i64 hi] (.bool (decide (lo ≤ n ∧ n ≤ hi))) := by
  (refine callS_of_awp (fun w args => Try.call45 ..) Try.func45 rfl (fun w0 m0 wz => ?_); simp only [Try.ntmps45, Try.results45, initT, junks, ruleC, seasonC, slS, sl, List.toList_toArray, List.cons_append, List.nil_append, List.length_cons, List.length_nil, Nat.reduceAdd, Nat.reduceSub])
  (repeat' (first
    | (refine awp_seqK ?_)
    | (refine kt ?_)
    | (refine And.intro ?_ ?_)
    | ((first | refine awp_region ?_ | refine awp_draw (by kernel_rfl) (by kernel_rfl) ?_ | refine Imp.le2 ?_ | refine awp_label ?_ | refine awp_skip ?_ | refine awp_exit ?_ | refine awp_cd ?_ | refine awp_ret ?_); simp (maxSteps := 4000000) only [go_sem, List.append_eq, List.cons_append, List.nil_append, Nat.reduceAdd, Nat.reduceMul, Nat.reduceSub, Nat.reduceLeDiff, Nat.reduceLT, Int.reduceAdd, Int.reduceToNat, Int.reduceLE, Int.reduceLT, Int.reduceNeg, reduceIte, ruleC, seasonC, slS])
    | (intro _h)
    | (refine awp_block ?_)
    | (refine awp_scope ?_)
    | (refine go_split (fun _h => ?_) (fun _h => ?_) <;> simp (maxSteps := 4000000) only [go_sem, List.append_eq, List.cons_append, List.nil_append, Nat.reduceAdd, Nat.reduceMul, Nat.reduceSub, Nat.reduceLeDiff, Nat.reduceLT, Int.reduceAdd, Int.reduceToNat, Int.reduceLE, Int.reduceLT, Int.reduceNeg, reduceIte, ruleC, seasonC, slS])
    | (show heapOK _ _ = true; kernel_rfl)
    | (omega)))
theorem hold_c (n : Int) : CallS Try.prog 83 [.int .i64 n] (.bool (decide (1 ≤ n ∧ n ≤ 60))) := by
  (refine callS_of_awp (fun w args => Try.call83 ..) Try.func83 rfl (fun w0 m0 wz => ?_); simp only [Try.ntmps83, Try.results83, initT, junks, ruleC, seasonC, slS, sl, List.toList_toArray, List.cons_append, List.nil_append, List.length_cons, List.length_nil, Nat.reduceAdd, Nat.reduceSub])
  (repeat' (first
    | (refine awp_seqK ?_)
    | (refine kt ?_)
    | (refine And.intro ?_ ?_)
    | ((first | refine awp_region ?_ | refine awp_draw (by kernel_rfl) (by kernel_rfl) ?_ | refine Imp.le2 ?_ | refine awp_label ?_ | refine awp_skip ?_ | refine awp_exit ?_ | refine awp_cd ?_ | refine awp_ret ?_); simp (maxSteps := 4000000) only [go_sem, List.append_eq, List.cons_append, List.nil_append, Nat.reduceAdd, Nat.reduceMul, Nat.reduceSub, Nat.reduceLeDiff, Nat.reduceLT, Int.reduceAdd, Int.reduceToNat, Int.reduceLE, Int.reduceLT, Int.reduceNeg, reduceIte, ruleC, seasonC, slS])
    | (intro _h)
    | (refine awp_block ?_)
    | (refine awp_scope ?_)
    | ((first | refine callK_of (within_c _ _ _) ?_); try simp (maxSteps := 4000000) only [go_sem, List.append_eq, List.cons_append, List.nil_append, Nat.reduceAdd, Nat.reduceMul, Nat.reduceSub, Nat.reduceLeDiff, Nat.reduceLT, Int.reduceAdd, Int.reduceToNat, Int.reduceLE, Int.reduceLT, Int.reduceNeg, reduceIte, ruleC, seasonC, slS])
    | (refine go_split (fun _h => ?_) (fun _h => ?_) <;> simp (maxSteps := 4000000) only [go_sem, List.append_eq, List.cons_append, List.nil_append, Nat.reduceAdd, Nat.reduceMul, Nat.reduceSub, Nat.reduceLeDiff, Nat.reduceLT, Int.reduceAdd, Int.reduceToNat, Int.reduceLE, Int.reduceLT, Int.reduceNeg, reduceIte, ruleC, seasonC, slS])
    | (show heapOK _ _ = true; kernel_rfl)
    | (omega)))
theorem speedB_c (n : Int) : CallS Try.prog 71 [.int .i64 n] (.bool (speedB n)) := speed_c n
theorem ruleValid_c (r : Rule) : CallS Try.prog 59 [.agg (ruleC r)] (.bool (ruleB r)) := by
  unfold ruleB
  (refine callS_of_awp (fun w args => Try.call59 ..) Try.func59 rfl (fun w0 m0 wz => ?_); simp only [Try.ntmps59, Try.results59, initT, junks, ruleC, seasonC, slS, sl, List.toList_toArray, List.cons_append, List.nil_append, List.length_cons, List.length_nil, Nat.reduceAdd, Nat.reduceSub])
  (repeat' (first
    | (refine awp_seqK ?_)
    | (refine kt ?_)
    | (refine And.intro ?_ ?_)
    | ((first | refine awp_region ?_ | refine awp_draw (by kernel_rfl) (by kernel_rfl) ?_ | refine Imp.le2 ?_ | refine awp_label ?_ | refine awp_skip ?_ | refine awp_exit ?_ | refine awp_cd ?_ | refine awp_ret ?_); simp (maxSteps := 4000000) only [go_sem, List.append_eq, List.cons_append, List.nil_append, Nat.reduceAdd, Nat.reduceMul, Nat.reduceSub, Nat.reduceLeDiff, Nat.reduceLT, Int.reduceAdd, Int.reduceToNat, Int.reduceLE, Int.reduceLT, Int.reduceNeg, reduceIte, ruleC, seasonC, slS])
    | (intro _h)
    | (refine awp_block ?_)
    | (refine awp_scope ?_)
    | ((first | refine callK_of (within_c _ _ _) ?_ | refine callK_of (speed_c _) ?_ | refine callK_of (hold_c _) ?_); try simp (maxSteps := 4000000) only [go_sem, List.append_eq, List.cons_append, List.nil_append, Nat.reduceAdd, Nat.reduceMul, Nat.reduceSub, Nat.reduceLeDiff, Nat.reduceLT, Int.reduceAdd, Int.reduceToNat, Int.reduceLE, Int.reduceLT, Int.reduceNeg, reduceIte, ruleC, seasonC, slS])
    | (refine go_split (fun _h => ?_) (fun _h => ?_) <;> simp (maxSteps := 4000000) only [go_sem, List.append_eq, List.cons_append, List.nil_append, Nat.reduceAdd, Nat.reduceMul, Nat.reduceSub, Nat.reduceLeDiff, Nat.reduceLT, Int.reduceAdd, Int.reduceToNat, Int.reduceLE, Int.reduceLT, Int.reduceNeg, reduceIte, ruleC, seasonC, slS])
    | (show heapOK _ _ = true; kernel_rfl)
    | (omega)))
theorem rightRule_c (r : Rule) : CallS Try.prog 22 [.agg (ruleC r)] (.bool (ruleB r)) := by
  unfold ruleB
  (refine callS_of_awp (fun w args => Try.call22 ..) Try.func22 rfl (fun w0 m0 wz => ?_); simp only [Try.ntmps22, Try.results22, initT, junks, ruleC, seasonC, slS, sl, List.toList_toArray, List.cons_append, List.nil_append, List.length_cons, List.length_nil, Nat.reduceAdd, Nat.reduceSub])
  (repeat' (first
    | (refine awp_seqK ?_)
    | (refine kt ?_)
    | (refine And.intro ?_ ?_)
    | ((first | refine awp_region ?_ | refine awp_draw (by kernel_rfl) (by kernel_rfl) ?_ | refine Imp.le2 ?_ | refine awp_label ?_ | refine awp_skip ?_ | refine awp_exit ?_ | refine awp_cd ?_ | refine awp_ret ?_); simp (maxSteps := 4000000) only [go_sem, List.append_eq, List.cons_append, List.nil_append, Nat.reduceAdd, Nat.reduceMul, Nat.reduceSub, Nat.reduceLeDiff, Nat.reduceLT, Int.reduceAdd, Int.reduceToNat, Int.reduceLE, Int.reduceLT, Int.reduceNeg, reduceIte, ruleC, seasonC, slS])
    | (intro _h)
    | (refine awp_block ?_)
    | (refine awp_scope ?_)
    | ((first | refine callK_of (in_c _ _ _) ?_); try simp (maxSteps := 4000000) only [go_sem, List.append_eq, List.cons_append, List.nil_append, Nat.reduceAdd, Nat.reduceMul, Nat.reduceSub, Nat.reduceLeDiff, Nat.reduceLT, Int.reduceAdd, Int.reduceToNat, Int.reduceLE, Int.reduceLT, Int.reduceNeg, reduceIte, ruleC, seasonC, slS])
    | (refine go_split (fun _h => ?_) (fun _h => ?_) <;> simp (maxSteps := 4000000) only [go_sem, List.append_eq, List.cons_append, List.nil_append, Nat.reduceAdd, Nat.reduceMul, Nat.reduceSub, Nat.reduceLeDiff, Nat.reduceLT, Int.reduceAdd, Int.reduceToNat, Int.reduceLE, Int.reduceLT, Int.reduceNeg, reduceIte, ruleC, seasonC, slS])
    | (show heapOK _ _ = true; kernel_rfl)
    | (omega)))
theorem Rule_c (r : Rule) : CallS Try.prog 20 [.agg (ruleC r)] (.agg (ruleC r)) := by
  (refine callS_of_awp (fun w args => Try.call20 ..) Try.func20 rfl (fun w0 m0 wz => ?_); simp only [Try.ntmps20, Try.results20, initT, junks, ruleC, seasonC, slS, sl, List.toList_toArray, List.cons_append, List.nil_append, List.length_cons, List.length_nil, Nat.reduceAdd, Nat.reduceSub])
  (repeat' (first
    | (refine awp_seqK ?_)
    | (refine kt ?_)
    | (refine And.intro ?_ ?_)
    | ((first | refine awp_region ?_ | refine awp_draw (by kernel_rfl) (by kernel_rfl) ?_ | refine Imp.le2 ?_ | refine awp_label ?_ | refine awp_skip ?_ | refine awp_exit ?_ | refine awp_cd ?_ | refine awp_ret ?_); simp (maxSteps := 4000000) only [go_sem, List.append_eq, List.cons_append, List.nil_append, Nat.reduceAdd, Nat.reduceMul, Nat.reduceSub, Nat.reduceLeDiff, Nat.reduceLT, Int.reduceAdd, Int.reduceToNat, Int.reduceLE, Int.reduceLT, Int.reduceNeg, reduceIte, ruleC, seasonC, slS])
    | (intro _h)
    | (refine awp_block ?_)
    | (refine awp_scope ?_)
    | (refine go_split (fun _h => ?_) (fun _h => ?_) <;> simp (maxSteps := 4000000) only [go_sem, List.append_eq, List.cons_append, List.nil_append, Nat.reduceAdd, Nat.reduceMul, Nat.reduceSub, Nat.reduceLeDiff, Nat.reduceLT, Int.reduceAdd, Int.reduceToNat, Int.reduceLE, Int.reduceLT, Int.reduceNeg, reduceIte, ruleC, seasonC, slS])
    | (show heapOK _ _ = true; kernel_rfl)
    | (omega)))
theorem Season_c (s : Season) (hl : s.speeds.length ≤ 1000000) : CallS Try.prog 19 [.agg (seasonC s)] (.agg (seasonC s)) := by
  (refine callS_of_awp (fun w args => Try.call19 ..) Try.func19 rfl (fun w0 m0 wz => ?_); simp only [Try.ntmps19, Try.results19, initT, junks, ruleC, seasonC, slS, sl, List.toList_toArray, List.cons_append, List.nil_append, List.length_cons, List.length_nil, Nat.reduceAdd, Nat.reduceSub])
  (repeat' (first
    | (refine awp_seqK ?_)
    | (refine kt ?_)
    | (refine And.intro ?_ ?_)
    | ((first | refine awp_region ?_ | refine awp_draw (by kernel_rfl) (by kernel_rfl) ?_ | refine Imp.le2 ?_ | refine awp_label ?_ | refine awp_skip ?_ | refine awp_exit ?_ | refine awp_cd ?_ | refine awp_ret ?_); simp (maxSteps := 4000000) only [go_sem, List.append_eq, List.cons_append, List.nil_append, Nat.reduceAdd, Nat.reduceMul, Nat.reduceSub, Nat.reduceLeDiff, Nat.reduceLT, Int.reduceAdd, Int.reduceToNat, Int.reduceLE, Int.reduceLT, Int.reduceNeg, reduceIte, ruleC, seasonC, slS])
    | (intro _h)
    | (refine awp_block ?_)
    | (refine awp_scope ?_)
    | ((first | refine callK_of (list_c _ hl) ?_); try simp (maxSteps := 4000000) only [go_sem, List.append_eq, List.cons_append, List.nil_append, Nat.reduceAdd, Nat.reduceMul, Nat.reduceSub, Nat.reduceLeDiff, Nat.reduceLT, Int.reduceAdd, Int.reduceToNat, Int.reduceLE, Int.reduceLT, Int.reduceNeg, reduceIte, ruleC, seasonC, slS])
    | (refine go_split (fun _h => ?_) (fun _h => ?_) <;> simp (maxSteps := 4000000) only [go_sem, List.append_eq, List.cons_append, List.nil_append, Nat.reduceAdd, Nat.reduceMul, Nat.reduceSub, Nat.reduceLeDiff, Nat.reduceLT, Int.reduceAdd, Int.reduceToNat, Int.reduceLE, Int.reduceLT, Int.reduceNeg, reduceIte, ruleC, seasonC, slS])
    | (show heapOK _ _ = true; kernel_rfl)
    | (omega)))
end Go.Am

/- What the arguments of the alarm laws can be read as. -/
namespace Go.Am
open Go.RowKit Go.Proofs

theorem rd3 : Reads Try.prog 3 1 (fun n : Int => [.int .i64 n]) (okI .i64) := reads_int Try.underlying3 (by kernel_rfl)
theorem rd4 : Reads Try.prog 4 1 (fun b : Bool => [.bool b]) (fun _ => True) := reads_bool Try.underlying4 (by kernel_rfl)
theorem rd22 : Reads Try.prog 22 1 (fun l : List Int => [sl l]) (fun l => l.length ≤ 9223372036854775807 ∧ ∀ a ∈ l, okI .i64 a) :=
  (reads_slice Try.underlying22 (by kernel_rfl) (by omega) rd3).conv id _ _ (fun _ => rfl) (fun l => by simp only [sl, ints, id]; congr 2; induction l with | nil => rfl | cons a l ih => simp_all) (fun _ h => h)
theorem rd24 : Reads Try.prog 24 2 seasonC (fun s => s.speeds.length ≤ 9223372036854775807) :=
  (reads_struct Try.underlying24 (by kernel_rfl) (readsF_cons rfl rd22 (readsF_cons rfl rd4 readsF_nil))).conv (fun p => ⟨p.1, p.2.1⟩) _ _ (fun _ => rfl) (fun _ => rfl) (fun _ h => h.1.1)
theorem rd26 : Reads Try.prog 26 3 ruleC (fun _ => True) :=
  (reads_struct Try.underlying26 (by kernel_rfl) (readsF_cons rfl rd3 (readsF_cons rfl rd3 (readsF_cons rfl rd3 readsF_nil)))).conv (fun p => ⟨p.1, p.2.1, p.2.2.1⟩) _ _ (fun _ => rfl) (fun _ => rfl) (fun _ _ => trivial)
end Go.Am

/- Contracts of the alarm functions: the errors of seasons. -/
namespace Go.Am
open Go.RowKit Go.Proofs
attribute [local irreducible] AWP CallS Kt goK CallK stepK evOps
set_option maxRecDepth 4000
set_option linter.unusedSimpArgs false
set_option linter.unusedVariables false
set_option maxHeartbeats 400000

theorem idx_S (l : List Season) (g : FuncId) (fv : AV) (q : Season → Bool) (hl : l.length ≤ 9223372036854775807) (hq : ∀ i, i < l.length → CallS Try.prog g [.agg (seasonC (l.getD i default)), .pptr [fv] 0] (.bool (q (l.getD i default)))) :
    CallS Try.prog 102 [slS l, .fn (.func g) [] [.pptr [fv] 0]] (.int .i64 (idxOf q l)) := by
  simp only [seasonC, sl] at hq
  (refine callS_of_awp (fun w args => Try.call102 ..) Try.func102 rfl (fun w0 m0 wz => ?_); simp only [Try.ntmps102, Try.results102, initT, junks, ruleC, seasonC, slS, sl, List.toList_toArray, List.cons_append, List.nil_append, List.length_cons, List.length_nil, Nat.reduceAdd, Nat.reduceSub])
  (repeat' (first
    | (refine awp_seqK ?_)
    | (refine kt ?_)
    | (refine And.intro ?_ ?_)
    | ((first | refine awp_region ?_ | refine awp_draw (by kernel_rfl) (by kernel_rfl) ?_ | refine Imp.le2 ?_ | refine awp_label ?_ | refine awp_skip ?_ | refine awp_exit ?_ | refine awp_cd ?_ | refine awp_ret ?_); simp (maxSteps := 4000000) only [go_sem, List.append_eq, List.cons_append, List.nil_append, Nat.reduceAdd, Nat.reduceMul, Nat.reduceSub, Nat.reduceLeDiff, Nat.reduceLT, Int.reduceAdd, Int.reduceToNat, Int.reduceLE, Int.reduceLT, Int.reduceNeg, reduceIte, ruleC, seasonC, slS])
    | (intro _h)
    | (refine awp_block ?_)
    | (refine awp_scope ?_)
    | (refine go_split (fun _h => ?_) (fun _h => ?_) <;> simp (maxSteps := 4000000) only [go_sem, List.append_eq, List.cons_append, List.nil_append, Nat.reduceAdd, Nat.reduceMul, Nat.reduceSub, Nat.reduceLeDiff, Nat.reduceLT, Int.reduceAdd, Int.reduceToNat, Int.reduceLE, Int.reduceLT, Int.reduceNeg, reduceIte, ruleC, seasonC, slS])
    | (show heapOK _ _ = true; kernel_rfl)
    | (omega)))
  refine awp_loopJ (fun i : Nat => i ≤ l.length ∧ ∀ j, j < i → q (l.getD j default) = false) (fun i => ⟨mkT 19 [(0, slS l), (1, .fn (.func g) [] [.pptr [fv] 0]), (6, slS l), (7, .int .i64 l.length), (8, .int .i64 i)], [], []⟩) (fun i => l.length - i) 0 ⟨Nat.zero_le _, by simp⟩ (.le2 ?_) ?_
  · simp (maxSteps := 4000000) only [go_sem, List.append_eq, List.cons_append, List.nil_append, Nat.reduceAdd, Nat.reduceMul, Nat.reduceSub, Nat.reduceLeDiff, Nat.reduceLT, Int.reduceAdd, Int.reduceToNat, Int.reduceLE, Int.reduceLT, Int.reduceNeg, reduceIte, ruleC, seasonC, slS]
  · rintro i ⟨hi, hj⟩
    simp (maxSteps := 4000000) only [go_sem, List.append_eq, List.cons_append, List.nil_append, Nat.reduceAdd, Nat.reduceMul, Nat.reduceSub, Nat.reduceLeDiff, Nat.reduceLT, Int.reduceAdd, Int.reduceToNat, Int.reduceLE, Int.reduceLT, Int.reduceNeg, reduceIte, ruleC, seasonC, slS]
    (repeat' (first
    | (refine awp_seqK ?_)
    | (refine kt ?_)
    | (refine And.intro ?_ ?_)
    | ((first | refine awp_region ?_ | refine awp_draw (by kernel_rfl) (by kernel_rfl) ?_ | refine Imp.le2 ?_ | refine awp_label ?_ | refine awp_skip ?_ | refine awp_exit ?_ | refine awp_cd ?_ | refine awp_ret ?_); simp (maxSteps := 4000000) only [go_sem, List.append_eq, List.cons_append, List.nil_append, Nat.reduceAdd, Nat.reduceMul, Nat.reduceSub, Nat.reduceLeDiff, Nat.reduceLT, Int.reduceAdd, Int.reduceToNat, Int.reduceLE, Int.reduceLT, Int.reduceNeg, reduceIte, ruleC, seasonC, slS])
    | (intro _h)
    | (refine awp_block ?_)
    | (refine awp_scope ?_)
    | ((first | refine callK_of (hq i (by omega)) ?_); try simp (maxSteps := 4000000) only [go_sem, List.append_eq, List.cons_append, List.nil_append, Nat.reduceAdd, Nat.reduceMul, Nat.reduceSub, Nat.reduceLeDiff, Nat.reduceLT, Int.reduceAdd, Int.reduceToNat, Int.reduceLE, Int.reduceLT, Int.reduceNeg, reduceIte, ruleC, seasonC, slS])
    | (refine go_split (fun _h => ?_) (fun _h => ?_) <;> simp (maxSteps := 4000000) only [go_sem, List.append_eq, List.cons_append, List.nil_append, Nat.reduceAdd, Nat.reduceMul, Nat.reduceSub, Nat.reduceLeDiff, Nat.reduceLT, Int.reduceAdd, Int.reduceToNat, Int.reduceLE, Int.reduceLT, Int.reduceNeg, reduceIte, ruleC, seasonC, slS])
    | (show heapOK _ _ = true; kernel_rfl)
    | (omega)))
    · exact idxOf_some (by omega) ‹_› hj
    · refine ⟨i + 1, ⟨by omega, fun j hji => ?_⟩, by omega, .le2 ?_⟩
      · rcases Nat.lt_succ_iff_lt_or_eq.1 hji with h | rfl
        · exact hj j h
        · assumption
      · simp (maxSteps := 4000000) only [go_sem, List.append_eq, List.cons_append, List.nil_append, Nat.reduceAdd, Nat.reduceMul, Nat.reduceSub, Nat.reduceLeDiff, Nat.reduceLT, Int.reduceAdd, Int.reduceToNat, Int.reduceLE, Int.reduceLT, Int.reduceNeg, reduceIte, ruleC, seasonC, slS]
        omega
    · exact idxOf_none (d := default) (fun j hjl => hj j (by omega))
theorem has_S (l : List Season) (g : FuncId) (fv : AV) (q : Season → Bool) (hl : l.length ≤ 9223372036854775807) (hq : ∀ i, i < l.length → CallS Try.prog g [.agg (seasonC (l.getD i default)), .pptr [fv] 0] (.bool (q (l.getD i default)))) :
    CallS Try.prog 95 [slS l, .fn (.func g) [] [.pptr [fv] 0]] (.bool (l.any q)) := by
  rw [← idxOf_ge]
  (refine callS_of_awp (fun w args => Try.call95 ..) Try.func95 rfl (fun w0 m0 wz => ?_); simp only [Try.ntmps95, Try.results95, initT, junks, ruleC, seasonC, slS, sl, List.toList_toArray, List.cons_append, List.nil_append, List.length_cons, List.length_nil, Nat.reduceAdd, Nat.reduceSub])
  (repeat' (first
    | (refine awp_seqK ?_)
    | (refine kt ?_)
    | (refine And.intro ?_ ?_)
    | ((first | refine awp_region ?_ | refine awp_draw (by kernel_rfl) (by kernel_rfl) ?_ | refine Imp.le2 ?_ | refine awp_label ?_ | refine awp_skip ?_ | refine awp_exit ?_ | refine awp_cd ?_ | refine awp_ret ?_); simp (maxSteps := 4000000) only [go_sem, List.append_eq, List.cons_append, List.nil_append, Nat.reduceAdd, Nat.reduceMul, Nat.reduceSub, Nat.reduceLeDiff, Nat.reduceLT, Int.reduceAdd, Int.reduceToNat, Int.reduceLE, Int.reduceLT, Int.reduceNeg, reduceIte, ruleC, seasonC, slS])
    | (intro _h)
    | (refine awp_block ?_)
    | (refine awp_scope ?_)
    | ((first | refine callK_of (idx_S l g fv q hl hq) ?_); try simp (maxSteps := 4000000) only [go_sem, List.append_eq, List.cons_append, List.nil_append, Nat.reduceAdd, Nat.reduceMul, Nat.reduceSub, Nat.reduceLeDiff, Nat.reduceLT, Int.reduceAdd, Int.reduceToNat, Int.reduceLE, Int.reduceLT, Int.reduceNeg, reduceIte, ruleC, seasonC, slS])
    | (refine go_split (fun _h => ?_) (fun _h => ?_) <;> simp (maxSteps := 4000000) only [go_sem, List.append_eq, List.cons_append, List.nil_append, Nat.reduceAdd, Nat.reduceMul, Nat.reduceSub, Nat.reduceLeDiff, Nat.reduceLT, Int.reduceAdd, Int.reduceToNat, Int.reduceLE, Int.reduceLT, Int.reduceNeg, reduceIte, ruleC, seasonC, slS])
    | (show heapOK _ _ = true; kernel_rfl)
    | (omega)))
theorem all1_S (s : Season) (f : FuncId) (q : Bool) (hq : CallS Try.prog f [.agg (seasonC s)] (.bool q)) : CallS Try.prog 96 [.agg (seasonC s), .pptr [.fn (.func f) [] []] 0] (.bool (!q)) := by
  simp only [seasonC, sl] at hq
  (refine callS_of_awp (fun w args => Try.call96 ..) Try.func96 rfl (fun w0 m0 wz => ?_); simp only [Try.ntmps96, Try.results96, initT, junks, ruleC, seasonC, slS, sl, List.toList_toArray, List.cons_append, List.nil_append, List.length_cons, List.length_nil, Nat.reduceAdd, Nat.reduceSub])
  (repeat' (first
    | (refine awp_seqK ?_)
    | (refine kt ?_)
    | (refine And.intro ?_ ?_)
    | ((first | refine awp_region ?_ | refine awp_draw (by kernel_rfl) (by kernel_rfl) ?_ | refine Imp.le2 ?_ | refine awp_label ?_ | refine awp_skip ?_ | refine awp_exit ?_ | refine awp_cd ?_ | refine awp_ret ?_); simp (maxSteps := 4000000) only [go_sem, List.append_eq, List.cons_append, List.nil_append, Nat.reduceAdd, Nat.reduceMul, Nat.reduceSub, Nat.reduceLeDiff, Nat.reduceLT, Int.reduceAdd, Int.reduceToNat, Int.reduceLE, Int.reduceLT, Int.reduceNeg, reduceIte, ruleC, seasonC, slS])
    | (intro _h)
    | (refine awp_block ?_)
    | (refine awp_scope ?_)
    | ((first | refine callK_of (hq) ?_); try simp (maxSteps := 4000000) only [go_sem, List.append_eq, List.cons_append, List.nil_append, Nat.reduceAdd, Nat.reduceMul, Nat.reduceSub, Nat.reduceLeDiff, Nat.reduceLT, Int.reduceAdd, Int.reduceToNat, Int.reduceLE, Int.reduceLT, Int.reduceNeg, reduceIte, ruleC, seasonC, slS])
    | (refine go_split (fun _h => ?_) (fun _h => ?_) <;> simp (maxSteps := 4000000) only [go_sem, List.append_eq, List.cons_append, List.nil_append, Nat.reduceAdd, Nat.reduceMul, Nat.reduceSub, Nat.reduceLeDiff, Nat.reduceLT, Int.reduceAdd, Int.reduceToNat, Int.reduceLE, Int.reduceLT, Int.reduceNeg, reduceIte, ruleC, seasonC, slS])
    | (show heapOK _ _ = true; kernel_rfl)
    | (omega))) <;> simp only [*, Bool.not_true, Bool.not_false]
theorem all_S (l : List Season) (f : FuncId) (q : Season → Bool) (hl : l.length ≤ 9223372036854775807) (hq : ∀ i, i < l.length → CallS Try.prog f [.agg (seasonC (l.getD i default))] (.bool (q (l.getD i default)))) :
    CallS Try.prog 79 [slS l, .fn (.func f) [] []] (.bool (l.all q)) := by
  have hany : l.all q = !l.any (fun x => !q x) := by simp [List.all_eq_not_any_not]
  rw [hany]
  (refine callS_of_awp (fun w args => Try.call79 ..) Try.func79 rfl (fun w0 m0 wz => ?_); simp only [Try.ntmps79, Try.results79, initT, junks, ruleC, seasonC, slS, sl, List.toList_toArray, List.cons_append, List.nil_append, List.length_cons, List.length_nil, Nat.reduceAdd, Nat.reduceSub])
  ((repeat refine awp_seqK ?_); refine awp_region ?_; simp (maxSteps := 4000000) only [go_sem, List.append_eq, List.cons_append, List.nil_append, Nat.reduceAdd, Nat.reduceMul, Nat.reduceSub, Nat.reduceLeDiff, Nat.reduceLT, Int.reduceAdd, Int.reduceToNat, Int.reduceLE, Int.reduceLT, Int.reduceNeg, reduceIte, ruleC, seasonC, slS]; refine kt ?_)
  (refine awp_frz 0 rfl (by simp (maxSteps := 4000000) only [go_sem, List.append_eq, List.cons_append, List.nil_append, Nat.reduceAdd, Nat.reduceMul, Nat.reduceSub, Nat.reduceLeDiff, Nat.reduceLT, Int.reduceAdd, Int.reduceToNat, Int.reduceLE, Int.reduceLT, Int.reduceNeg, reduceIte, ruleC, seasonC, slS]) (fun _ => rfl) ?_; simp only [frz, fzl, fz2, fz1, fz0, fzH, fzHs, fzO, fzB, List.map_cons, List.map_nil, if_true, if_false, reduceIte, Nat.reduceEqDiff, Nat.reduceAdd, Nat.succ_ne_self, Nat.zero_ne_one, Nat.one_ne_zero, reduceCtorEq, and_self])
  (repeat' (first
    | (refine awp_seqK ?_)
    | (refine kt ?_)
    | (refine And.intro ?_ ?_)
    | ((first | refine awp_region ?_ | refine awp_draw (by kernel_rfl) (by kernel_rfl) ?_ | refine Imp.le2 ?_ | refine awp_label ?_ | refine awp_skip ?_ | refine awp_exit ?_ | refine awp_cd ?_ | refine awp_ret ?_); simp (maxSteps := 4000000) only [go_sem, List.append_eq, List.cons_append, List.nil_append, Nat.reduceAdd, Nat.reduceMul, Nat.reduceSub, Nat.reduceLeDiff, Nat.reduceLT, Int.reduceAdd, Int.reduceToNat, Int.reduceLE, Int.reduceLT, Int.reduceNeg, reduceIte, ruleC, seasonC, slS])
    | (intro _h)
    | (refine awp_block ?_)
    | (refine awp_scope ?_)
    | ((first | refine callK_of (has_S l 96 (.fn (.func f) [] []) (fun x => !q x) hl (fun i hi => all1_S _ _ _ (hq i hi))) ?_); try simp (maxSteps := 4000000) only [go_sem, List.append_eq, List.cons_append, List.nil_append, Nat.reduceAdd, Nat.reduceMul, Nat.reduceSub, Nat.reduceLeDiff, Nat.reduceLT, Int.reduceAdd, Int.reduceToNat, Int.reduceLE, Int.reduceLT, Int.reduceNeg, reduceIte, ruleC, seasonC, slS])
    | (refine go_split (fun _h => ?_) (fun _h => ?_) <;> simp (maxSteps := 4000000) only [go_sem, List.append_eq, List.cons_append, List.nil_append, Nat.reduceAdd, Nat.reduceMul, Nat.reduceSub, Nat.reduceLeDiff, Nat.reduceLT, Int.reduceAdd, Int.reduceToNat, Int.reduceLE, Int.reduceLT, Int.reduceNeg, reduceIte, ruleC, seasonC, slS])
    | (show heapOK _ _ = true; kernel_rfl)
    | (omega))) <;> simp only [*, Bool.not_true, Bool.not_false]
theorem seasons1_c (s : Season) : CallS Try.prog 80 [.agg (seasonC s)] (.bool (decide (s.speeds.length ≤ 60))) := by
  (refine callS_of_awp (fun w args => Try.call80 ..) Try.func80 rfl (fun w0 m0 wz => ?_); simp only [Try.ntmps80, Try.results80, initT, junks, ruleC, seasonC, slS, sl, List.toList_toArray, List.cons_append, List.nil_append, List.length_cons, List.length_nil, Nat.reduceAdd, Nat.reduceSub])
  (repeat' (first
    | (refine awp_seqK ?_)
    | (refine kt ?_)
    | (refine And.intro ?_ ?_)
    | ((first | refine awp_region ?_ | refine awp_draw (by kernel_rfl) (by kernel_rfl) ?_ | refine Imp.le2 ?_ | refine awp_label ?_ | refine awp_skip ?_ | refine awp_exit ?_ | refine awp_cd ?_ | refine awp_ret ?_); simp (maxSteps := 4000000) only [go_sem, List.append_eq, List.cons_append, List.nil_append, Nat.reduceAdd, Nat.reduceMul, Nat.reduceSub, Nat.reduceLeDiff, Nat.reduceLT, Int.reduceAdd, Int.reduceToNat, Int.reduceLE, Int.reduceLT, Int.reduceNeg, reduceIte, ruleC, seasonC, slS])
    | (intro _h)
    | (refine awp_block ?_)
    | (refine awp_scope ?_)
    | (refine go_split (fun _h => ?_) (fun _h => ?_) <;> simp (maxSteps := 4000000) only [go_sem, List.append_eq, List.cons_append, List.nil_append, Nat.reduceAdd, Nat.reduceMul, Nat.reduceSub, Nat.reduceLeDiff, Nat.reduceLT, Int.reduceAdd, Int.reduceToNat, Int.reduceLE, Int.reduceLT, Int.reduceNeg, reduceIte, ruleC, seasonC, slS])
    | (show heapOK _ _ = true; kernel_rfl)
    | (omega)))
theorem seasons2_c (s : Season) (hl : s.speeds.length ≤ 9223372036854775807) : CallS Try.prog 81 [.agg (seasonC s)] (.bool (s.speeds.all speedB)) := by
  (refine callS_of_awp (fun w args => Try.call81 ..) Try.func81 rfl (fun w0 m0 wz => ?_); simp only [Try.ntmps81, Try.results81, initT, junks, ruleC, seasonC, slS, sl, List.toList_toArray, List.cons_append, List.nil_append, List.length_cons, List.length_nil, Nat.reduceAdd, Nat.reduceSub])
  (repeat' (first
    | (refine awp_seqK ?_)
    | (refine kt ?_)
    | (refine And.intro ?_ ?_)
    | ((first | refine awp_region ?_ | refine awp_draw (by kernel_rfl) (by kernel_rfl) ?_ | refine Imp.le2 ?_ | refine awp_label ?_ | refine awp_skip ?_ | refine awp_exit ?_ | refine awp_cd ?_ | refine awp_ret ?_); simp (maxSteps := 4000000) only [go_sem, List.append_eq, List.cons_append, List.nil_append, Nat.reduceAdd, Nat.reduceMul, Nat.reduceSub, Nat.reduceLeDiff, Nat.reduceLT, Int.reduceAdd, Int.reduceToNat, Int.reduceLE, Int.reduceLT, Int.reduceNeg, reduceIte, ruleC, seasonC, slS])
    | (intro _h)
    | (refine awp_block ?_)
    | (refine awp_scope ?_)
    | ((first | refine callK_of (all_int _ 71 speedB hl (fun i _ => speedB_c _)) ?_); try simp (maxSteps := 4000000) only [go_sem, List.append_eq, List.cons_append, List.nil_append, Nat.reduceAdd, Nat.reduceMul, Nat.reduceSub, Nat.reduceLeDiff, Nat.reduceLT, Int.reduceAdd, Int.reduceToNat, Int.reduceLE, Int.reduceLT, Int.reduceNeg, reduceIte, ruleC, seasonC, slS])
    | (refine go_split (fun _h => ?_) (fun _h => ?_) <;> simp (maxSteps := 4000000) only [go_sem, List.append_eq, List.cons_append, List.nil_append, Nat.reduceAdd, Nat.reduceMul, Nat.reduceSub, Nat.reduceLeDiff, Nat.reduceLT, Int.reduceAdd, Int.reduceToNat, Int.reduceLE, Int.reduceLT, Int.reduceNeg, reduceIte, ruleC, seasonC, slS])
    | (show heapOK _ _ = true; kernel_rfl)
    | (omega))) <;> simp only [*]
/-- A list whose lengths are lengths. -/
def okS (l : List Season) : Prop := l.length ≤ 9223372036854775807 ∧ ∀ i, i < l.length → (l.getD i default).speeds.length ≤ 9223372036854775807
theorem seasons_c (l : List Season) (hl : okS l) : CallS Try.prog 58 [slS l] (.int .i64 (faultS l)) := by
  have h1 := all_S l 80 (fun s => decide (s.speeds.length ≤ 60)) hl.1 (fun i _ => seasons1_c _)
  have h2 := all_S l 81 (fun s => s.speeds.all speedB) hl.1 (fun i hi => seasons2_c _ (hl.2 i hi))
  unfold faultS
  simp only [slS] at h1 h2
  (refine callS_of_awp (fun w args => Try.call58 ..) Try.func58 rfl (fun w0 m0 wz => ?_); simp only [Try.ntmps58, Try.results58, initT, junks, ruleC, seasonC, slS, sl, List.toList_toArray, List.cons_append, List.nil_append, List.length_cons, List.length_nil, Nat.reduceAdd, Nat.reduceSub])
  (repeat' (first
    | (refine awp_seqK ?_)
    | (refine kt ?_)
    | (refine And.intro ?_ ?_)
    | ((first | refine awp_region ?_ | refine awp_draw (by kernel_rfl) (by kernel_rfl) ?_ | refine Imp.le2 ?_ | refine awp_label ?_ | refine awp_skip ?_ | refine awp_exit ?_ | refine awp_cd ?_ | refine awp_ret ?_); simp (maxSteps := 4000000) only [go_sem, List.append_eq, List.cons_append, List.nil_append, Nat.reduceAdd, Nat.reduceMul, Nat.reduceSub, Nat.reduceLeDiff, Nat.reduceLT, Int.reduceAdd, Int.reduceToNat, Int.reduceLE, Int.reduceLT, Int.reduceNeg, reduceIte, ruleC, seasonC, slS])
    | (intro _h)
    | (refine awp_block ?_)
    | (refine awp_scope ?_)
    | ((first | refine callK_of (h1) ?_ | refine callK_of (h2) ?_); try simp (maxSteps := 4000000) only [go_sem, List.append_eq, List.cons_append, List.nil_append, Nat.reduceAdd, Nat.reduceMul, Nat.reduceSub, Nat.reduceLeDiff, Nat.reduceLT, Int.reduceAdd, Int.reduceToNat, Int.reduceLE, Int.reduceLT, Int.reduceNeg, reduceIte, ruleC, seasonC, slS])
    | (refine go_split (fun _h => ?_) (fun _h => ?_) <;> simp (maxSteps := 4000000) only [go_sem, List.append_eq, List.cons_append, List.nil_append, Nat.reduceAdd, Nat.reduceMul, Nat.reduceSub, Nat.reduceLeDiff, Nat.reduceLT, Int.reduceAdd, Int.reduceToNat, Int.reduceLE, Int.reduceLT, Int.reduceNeg, reduceIte, ruleC, seasonC, slS])
    | (show heapOK _ _ = true; kernel_rfl)
    | (omega))) <;> (rw [if_neg (show ¬ 10 < l.length by omega)]; simp [*])
end Go.Am

/- Contracts of the alarm functions: the errors of seasons by the reference, spells. -/
namespace Go.Am
open Go.RowKit Go.Proofs
attribute [local irreducible] AWP CallS Kt goK CallK stepK evOps
set_option maxRecDepth 4000
set_option linter.unusedSimpArgs false
set_option linter.unusedVariables false
set_option maxHeartbeats 800000

theorem faultS_long {l : List Season} {i : Nat} (h : i < l.length) (h1 : ¬ 10 < l.length) (h2 : 60 < (l.getD i default).speeds.length) : 3 = faultS l := by
  have : (l.all fun s => decide (s.speeds.length ≤ 60)) = false := by
    rw [List.all_eq_false]
    refine ⟨l[i], List.getElem_mem h, ?_⟩
    have : l.getD i default = l[i] := by simp [List.getD_eq_getElem?_getD, h]
    rw [this] at h2
    simp; omega
  simp [faultS, h1, this]
theorem faultS_short {l : List Season} (h1 : ¬ 10 < l.length) (h : ∀ j, j < l.length → (l.getD j default).speeds.length ≤ 60) : faultS l = if (l.all fun s => s.speeds.all speedB) = false then 1 else 0 := by
  have : (l.all fun s => decide (s.speeds.length ≤ 60)) = true := by
    rw [List.all_eq_true]
    intro s hs
    obtain ⟨j, hj, rfl⟩ := List.mem_iff_getElem.1 hs
    have := h j hj
    rw [show l.getD j default = l[j] by simp [List.getD_eq_getElem?_getD, hj]] at this
    simpa using this
  simp [faultS, h1, this]
theorem faultS_bad {l : List Season} {i k : Nat} (hi : i < l.length) (hk : k < (l.getD i default).speeds.length) (h2 : ¬ (0 ≤ (l.getD i default).speeds.getD k 0 ∧ (l.getD i default).speeds.getD k 0 ≤ 1000)) : (l.all fun s => s.speeds.all speedB) = false := by
  rw [List.all_eq_false]
  refine ⟨l[i], List.getElem_mem hi, ?_⟩
  rw [show l.getD i default = l[i] by simp [List.getD_eq_getElem?_getD, hi]] at hk h2
  rw [List.all_eq_true]
  intro h
  have := h _ (List.getElem_mem hk)
  rw [show l[i].speeds.getD k 0 = l[i].speeds[k] by simp [List.getD_eq_getElem?_getD, hk]] at h2
  simp [speedB] at this
  omega
theorem faultS_good {l : List Season} (h : ∀ i, i < l.length → ∀ k, k < (l.getD i default).speeds.length → (0 ≤ (l.getD i default).speeds.getD k 0 ∧ (l.getD i default).speeds.getD k 0 ≤ 1000)) : (l.all fun s => s.speeds.all speedB) = true := by
  rw [List.all_eq_true]
  intro s hs
  obtain ⟨j, hj, rfl⟩ := List.mem_iff_getElem.1 hs
  have := h j hj
  rw [show l.getD j default = l[j] by simp [List.getD_eq_getElem?_getD, hj]] at this
  rw [List.all_eq_true]
  intro x hx
  obtain ⟨k, hk, rfl⟩ := List.mem_iff_getElem.1 hx
  have := this k hk
  rw [show l[j].speeds.getD k 0 = l[j].speeds[k] by simp [List.getD_eq_getElem?_getD, hk]] at this
  simpa [speedB] using this

theorem seasonsFault_c (l : List Season) (hl : okS l) : CallS Try.prog 21 [slS l] (.int .i64 (faultS l)) := by
  have hl1 := hl.1
  have hl2 := hl.2
  (refine callS_of_awp (fun w args => Try.call21 ..) Try.func21 rfl (fun w0 m0 wz => ?_); simp only [Try.ntmps21, Try.results21, initT, junks, ruleC, seasonC, slS, sl, List.toList_toArray, List.cons_append, List.nil_append, List.length_cons, List.length_nil, Nat.reduceAdd, Nat.reduceSub])
  (repeat' (first
    | (refine awp_seqK ?_)
    | (refine kt ?_)
    | (refine And.intro ?_ ?_)
    | ((first | refine awp_region ?_ | refine awp_draw (by kernel_rfl) (by kernel_rfl) ?_ | refine Imp.le2 ?_ | refine awp_label ?_ | refine awp_skip ?_ | refine awp_exit ?_ | refine awp_cd ?_ | refine awp_ret ?_); simp (maxSteps := 4000000) only [go_sem, List.append_eq, List.cons_append, List.nil_append, Nat.reduceAdd, Nat.reduceMul, Nat.reduceSub, Nat.reduceLeDiff, Nat.reduceLT, Int.reduceAdd, Int.reduceToNat, Int.reduceLE, Int.reduceLT, Int.reduceNeg, reduceIte, ruleC, seasonC, slS])
    | (intro _h)
    | (refine awp_block ?_)
    | (refine awp_scope ?_)
    | (refine go_split (fun _h => ?_) (fun _h => ?_) <;> simp (maxSteps := 4000000) only [go_sem, List.append_eq, List.cons_append, List.nil_append, Nat.reduceAdd, Nat.reduceMul, Nat.reduceSub, Nat.reduceLeDiff, Nat.reduceLT, Int.reduceAdd, Int.reduceToNat, Int.reduceLE, Int.reduceLT, Int.reduceNeg, reduceIte, ruleC, seasonC, slS])
    | (show heapOK _ _ = true; kernel_rfl)
    | (omega)))
  · simp [faultS, show 10 < l.length by omega]
  · refine awp_loopJ (fun i : Nat => i ≤ l.length ∧ ∀ j, j < i → (l.getD j default).speeds.length ≤ 60) (fun i => ⟨mkT 48 [(0, slS l), (3, .int .i64 i)], [], []⟩) (fun i => l.length - i) 0 ⟨Nat.zero_le _, by simp⟩ (.le2 ?_) ?_
    · simp (maxSteps := 4000000) only [go_sem, List.append_eq, List.cons_append, List.nil_append, Nat.reduceAdd, Nat.reduceMul, Nat.reduceSub, Nat.reduceLeDiff, Nat.reduceLT, Int.reduceAdd, Int.reduceToNat, Int.reduceLE, Int.reduceLT, Int.reduceNeg, reduceIte, ruleC, seasonC, slS]
    · rintro i ⟨hi, hj⟩
      simp (maxSteps := 4000000) only [go_sem, List.append_eq, List.cons_append, List.nil_append, Nat.reduceAdd, Nat.reduceMul, Nat.reduceSub, Nat.reduceLeDiff, Nat.reduceLT, Int.reduceAdd, Int.reduceToNat, Int.reduceLE, Int.reduceLT, Int.reduceNeg, reduceIte, ruleC, seasonC, slS]
      (repeat' (first
    | (refine awp_seqK ?_)
    | (refine kt ?_)
    | (refine And.intro ?_ ?_)
    | ((first | refine awp_region ?_ | refine awp_draw (by kernel_rfl) (by kernel_rfl) ?_ | refine Imp.le2 ?_ | refine awp_label ?_ | refine awp_skip ?_ | refine awp_exit ?_ | refine awp_cd ?_ | refine awp_ret ?_); simp (maxSteps := 4000000) only [go_sem, List.append_eq, List.cons_append, List.nil_append, Nat.reduceAdd, Nat.reduceMul, Nat.reduceSub, Nat.reduceLeDiff, Nat.reduceLT, Int.reduceAdd, Int.reduceToNat, Int.reduceLE, Int.reduceLT, Int.reduceNeg, reduceIte, ruleC, seasonC, slS])
    | (intro _h)
    | (refine awp_block ?_)
    | (refine awp_scope ?_)
    | (refine go_split (fun _h => ?_) (fun _h => ?_) <;> simp (maxSteps := 4000000) only [go_sem, List.append_eq, List.cons_append, List.nil_append, Nat.reduceAdd, Nat.reduceMul, Nat.reduceSub, Nat.reduceLeDiff, Nat.reduceLT, Int.reduceAdd, Int.reduceToNat, Int.reduceLE, Int.reduceLT, Int.reduceNeg, reduceIte, ruleC, seasonC, slS])
    | (show heapOK _ _ = true; kernel_rfl)
    | (omega)))
      · exact faultS_long (i := i) (by omega) (by omega) (by omega)
      · refine ⟨i + 1, ⟨by omega, fun j hji => ?_⟩, by omega, .le2 ?_⟩
        · rcases Nat.lt_succ_iff_lt_or_eq.1 hji with h | rfl
          · exact hj j h
          · omega
        · simp (maxSteps := 4000000) only [go_sem, List.append_eq, List.cons_append, List.nil_append, Nat.reduceAdd, Nat.reduceMul, Nat.reduceSub, Nat.reduceLeDiff, Nat.reduceLT, Int.reduceAdd, Int.reduceToNat, Int.reduceLE, Int.reduceLT, Int.reduceNeg, reduceIte, ruleC, seasonC, slS]
          omega
      · have hs := faultS_short (l := l) (by omega) (fun j h => hj j (by omega))
        refine awp_loopJ (fun i : Nat => i ≤ l.length ∧ ∀ j, j < i → ∀ k, k < (l.getD j default).speeds.length → (0 ≤ (l.getD j default).speeds.getD k 0 ∧ (l.getD j default).speeds.getD k 0 ≤ 1000)) (fun i => ⟨mkT 48 [(0, slS l), (4, .int .i64 i)], [], []⟩) (fun i => l.length - i) 0 ⟨Nat.zero_le _, by simp⟩ (.le2 ?_) ?_
        · simp (maxSteps := 4000000) only [go_sem, List.append_eq, List.cons_append, List.nil_append, Nat.reduceAdd, Nat.reduceMul, Nat.reduceSub, Nat.reduceLeDiff, Nat.reduceLT, Int.reduceAdd, Int.reduceToNat, Int.reduceLE, Int.reduceLT, Int.reduceNeg, reduceIte, ruleC, seasonC, slS]
        · rintro i ⟨hi', hj'⟩
          simp (maxSteps := 4000000) only [go_sem, List.append_eq, List.cons_append, List.nil_append, Nat.reduceAdd, Nat.reduceMul, Nat.reduceSub, Nat.reduceLeDiff, Nat.reduceLT, Int.reduceAdd, Int.reduceToNat, Int.reduceLE, Int.reduceLT, Int.reduceNeg, reduceIte, ruleC, seasonC, slS]
          (repeat' (first
    | (refine awp_seqK ?_)
    | (refine kt ?_)
    | (refine And.intro ?_ ?_)
    | ((first | refine awp_region ?_ | refine awp_draw (by kernel_rfl) (by kernel_rfl) ?_ | refine Imp.le2 ?_ | refine awp_label ?_ | refine awp_skip ?_ | refine awp_exit ?_ | refine awp_cd ?_ | refine awp_ret ?_); simp (maxSteps := 4000000) only [go_sem, List.append_eq, List.cons_append, List.nil_append, Nat.reduceAdd, Nat.reduceMul, Nat.reduceSub, Nat.reduceLeDiff, Nat.reduceLT, Int.reduceAdd, Int.reduceToNat, Int.reduceLE, Int.reduceLT, Int.reduceNeg, reduceIte, ruleC, seasonC, slS])
    | (intro _h)
    | (refine awp_block ?_)
    | (refine awp_scope ?_)
    | (refine go_split (fun _h => ?_) (fun _h => ?_) <;> simp (maxSteps := 4000000) only [go_sem, List.append_eq, List.cons_append, List.nil_append, Nat.reduceAdd, Nat.reduceMul, Nat.reduceSub, Nat.reduceLeDiff, Nat.reduceLT, Int.reduceAdd, Int.reduceToNat, Int.reduceLE, Int.reduceLT, Int.reduceNeg, reduceIte, ruleC, seasonC, slS])
    | (show heapOK _ _ = true; kernel_rfl)
    | (omega)))
          · have h2 := hl2 i (by omega)
            refine awp_loopJ (fun k : Nat => k ≤ (l.getD i default).speeds.length ∧ ∀ j, j < k → (0 ≤ (l.getD i default).speeds.getD j 0 ∧ (l.getD i default).speeds.getD j 0 ≤ 1000)) (fun k => ⟨mkT 48 [(0, slS l), (4, .int .i64 i), (5, .int .i64 k)], [], []⟩) (fun k => (l.getD i default).speeds.length - k) 0 ⟨Nat.zero_le _, by simp⟩ (.le2 ?_) ?_
            · simp (maxSteps := 4000000) only [go_sem, List.append_eq, List.cons_append, List.nil_append, Nat.reduceAdd, Nat.reduceMul, Nat.reduceSub, Nat.reduceLeDiff, Nat.reduceLT, Int.reduceAdd, Int.reduceToNat, Int.reduceLE, Int.reduceLT, Int.reduceNeg, reduceIte, ruleC, seasonC, slS]
            · rintro k ⟨hk, hjk⟩
              simp (maxSteps := 4000000) only [go_sem, List.append_eq, List.cons_append, List.nil_append, Nat.reduceAdd, Nat.reduceMul, Nat.reduceSub, Nat.reduceLeDiff, Nat.reduceLT, Int.reduceAdd, Int.reduceToNat, Int.reduceLE, Int.reduceLT, Int.reduceNeg, reduceIte, ruleC, seasonC, slS]
              (repeat' (first
    | (refine awp_seqK ?_)
    | (refine kt ?_)
    | (refine And.intro ?_ ?_)
    | ((first | refine awp_region ?_ | refine awp_draw (by kernel_rfl) (by kernel_rfl) ?_ | refine Imp.le2 ?_ | refine awp_label ?_ | refine awp_skip ?_ | refine awp_exit ?_ | refine awp_cd ?_ | refine awp_ret ?_); simp (maxSteps := 4000000) only [go_sem, List.append_eq, List.cons_append, List.nil_append, Nat.reduceAdd, Nat.reduceMul, Nat.reduceSub, Nat.reduceLeDiff, Nat.reduceLT, Int.reduceAdd, Int.reduceToNat, Int.reduceLE, Int.reduceLT, Int.reduceNeg, reduceIte, ruleC, seasonC, slS])
    | (intro _h)
    | (refine awp_block ?_)
    | (refine awp_scope ?_)
    | ((first | refine callK_of (in_c _ _ _) ?_); try simp (maxSteps := 4000000) only [go_sem, List.append_eq, List.cons_append, List.nil_append, Nat.reduceAdd, Nat.reduceMul, Nat.reduceSub, Nat.reduceLeDiff, Nat.reduceLT, Int.reduceAdd, Int.reduceToNat, Int.reduceLE, Int.reduceLT, Int.reduceNeg, reduceIte, ruleC, seasonC, slS])
    | (refine go_split (fun _h => ?_) (fun _h => ?_) <;> simp (maxSteps := 4000000) only [go_sem, List.append_eq, List.cons_append, List.nil_append, Nat.reduceAdd, Nat.reduceMul, Nat.reduceSub, Nat.reduceLeDiff, Nat.reduceLT, Int.reduceAdd, Int.reduceToNat, Int.reduceLE, Int.reduceLT, Int.reduceNeg, reduceIte, ruleC, seasonC, slS])
    | (show heapOK _ _ = true; kernel_rfl)
    | (omega)))
              · refine ⟨k + 1, ⟨by omega, fun j hji => ?_⟩, by omega, .le2 ?_⟩
                · rcases Nat.lt_succ_iff_lt_or_eq.1 hji with h | rfl
                  · exact hjk j h
                  · assumption
                · simp (maxSteps := 4000000) only [go_sem, List.append_eq, List.cons_append, List.nil_append, Nat.reduceAdd, Nat.reduceMul, Nat.reduceSub, Nat.reduceLeDiff, Nat.reduceLT, Int.reduceAdd, Int.reduceToNat, Int.reduceLE, Int.reduceLT, Int.reduceNeg, reduceIte, ruleC, seasonC, slS]
                  omega
              · rw [hs, faultS_bad (i := i) (k := k) (by omega) (by omega) ‹_›]; rfl
              · refine ⟨i + 1, ⟨by omega, fun j hji => ?_⟩, by omega, .le2 ?_⟩
                · rcases Nat.lt_succ_iff_lt_or_eq.1 hji with h | rfl
                  · exact hj' j h
                  · exact fun k hk => hjk k (by omega)
                · simp (maxSteps := 4000000) only [go_sem, List.append_eq, List.cons_append, List.nil_append, Nat.reduceAdd, Nat.reduceMul, Nat.reduceSub, Nat.reduceLeDiff, Nat.reduceLT, Int.reduceAdd, Int.reduceToNat, Int.reduceLE, Int.reduceLT, Int.reduceNeg, reduceIte, ruleC, seasonC, slS]
                  omega
          · rw [hs, faultS_good (fun j h => hj' j (by omega))]; rfl
end Go.Am

/- Contracts of the alarm functions: spells. -/
namespace Go.Am
open Go.RowKit Go.Proofs
attribute [local irreducible] AWP CallS Kt goK CallK stepK evOps
set_option maxRecDepth 4000
set_option linter.unusedSimpArgs false
set_option linter.unusedVariables false
set_option maxHeartbeats 800000

def spellC (x : Nat × Nat) : List AV := [.int .i64 x.1, .int .i64 x.2]
/-- A list of spells. -/
def slX (l : List (Nat × Nat)) : AV := .psl false l.length (recs spellC l)
theorem pl_X {l : List (Nat × Nat)} : pureL (recs spellC l) = True := eq_true (recs_pure fun s => by simp [pureL, spellC, cellPure])
theorem lv_X {l : List (Nat × Nat)} {p : Nat → Bool} : (recs spellC l).all (live2 p) = true := recs_live fun s => by simp [pureL, spellC, cellPure]
theorem len_X {l : List (Nat × Nat)} : (recs spellC l).length = l.length * 2 := recs_length fun _ => rfl
theorem ld_X42 {l : List (Nat × Nat)} {i : Nat} {K : AV → Prop} : loadK Try.prog 42 (recs spellC l) (i * 2) K = (i < l.length ∧ K (.agg (spellC (l.getD i (0, 0))))) := ld_recs tagg42 tsz42 (fun _ => rfl) (by omega)
theorem ld_X43 {l : List (Nat × Nat)} {i : Nat} {K : AV → Prop} : loadK Try.prog 43 (recs spellC l) (i * 2) K = (i < l.length ∧ K (.agg (spellC (l.getD i (0, 0))))) := ld_recs tagg43 tsz43 (fun _ => rfl) (by omega)
theorem nth_X0 {l : List (Nat × Nat)} {i : Nat} {K : AV → Prop} : optK (nth (recs spellC l) (i * 2)) K = (i < l.length ∧ K (.int .i64 (l.getD i (0, 0)).1)) := nth_recs (sz := 2) (o := 0) (fun _ => rfl) (by omega)
theorem nth_X1 {l : List (Nat × Nat)} {i : Nat} {K : AV → Prop} : optK (nth (recs spellC l) (i * 2 + 1)) K = (i < l.length ∧ K (.int .i64 (l.getD i (0, 0)).2)) := nth_recs (sz := 2) (o := 1) (fun _ => rfl) (by omega)
theorem snoc_X {l : List (Nat × Nat)} {a b : Nat} : recs spellC l ++ [.int .i64 a, .int .i64 b] = recs spellC (l ++ [(a, b)]) := by simp [recs, spellC]
attribute [go_sem] pl_X lv_X len_X nth_X0 nth_X1 snoc_X
attribute [go_sem ↓] ld_X42 ld_X43

theorem refSpells_c (s : Season) (r : Rule) (hl : s.speeds.length ≤ 1000) (hr : 1 ≤ r.hold ∧ r.hold ≤ 60) : CallS Try.prog 23 [.agg (seasonC s), .agg (ruleC r)] (slX (spells s.speeds r)) := by
  (refine callS_of_awp (fun w args => Try.call23 ..) Try.func23 rfl (fun w0 m0 wz => ?_); simp only [Try.ntmps23, Try.results23, initT, junks, ruleC, seasonC, slS, slX, sl, List.toList_toArray, List.cons_append, List.nil_append, List.length_cons, List.length_nil, Nat.reduceAdd, Nat.reduceSub])
  (repeat' (first
    | (refine awp_seqK ?_)
    | (refine kt ?_)
    | (refine And.intro ?_ ?_)
    | ((first | refine awp_region ?_ | refine awp_draw (by kernel_rfl) (by kernel_rfl) ?_ | refine Imp.le2 ?_ | refine awp_label ?_ | refine awp_skip ?_ | refine awp_exit ?_ | refine awp_cd ?_ | refine awp_ret ?_); simp (maxSteps := 4000000) only [go_sem, List.append_eq, List.cons_append, List.nil_append, Nat.reduceAdd, Nat.reduceMul, Nat.reduceSub, Nat.reduceLeDiff, Nat.reduceLT, Int.reduceAdd, Int.reduceToNat, Int.reduceLE, Int.reduceLT, Int.reduceNeg, reduceIte, ruleC, seasonC, slS, slX])
    | (intro _h)
    | (refine awp_block ?_)
    | (refine awp_scope ?_)
    | (refine go_split (fun _h => ?_) (fun _h => ?_) <;> simp (maxSteps := 4000000) only [go_sem, List.append_eq, List.cons_append, List.nil_append, Nat.reduceAdd, Nat.reduceMul, Nat.reduceSub, Nat.reduceLeDiff, Nat.reduceLT, Int.reduceAdd, Int.reduceToNat, Int.reduceLE, Int.reduceLT, Int.reduceNeg, reduceIte, ruleC, seasonC, slS, slX])
    | (show heapOK _ _ = true; kernel_rfl)
    | (omega)))
  (refine awp_adT 5 43 2 rfl ?_; simp only [adT, lset, hset, List.length_cons, List.length_nil, Nat.reduceAdd])
  refine awp_loopJ (γ := Nat × List (Nat × Nat)) (fun g => g.1 ≤ s.speeds.length ∧ g.2.length ≤ g.1 ∧ SpAt s.speeds r g.1 g.2)
    (fun g => ⟨mkT 56 [(2, .ptr 0 0 0), (3, .ptr 1 0 0), (5, .osl 2 g.2.length 0 g.2.length), (6, .int .i64 g.1)], [some (.cells 24 1 0 (seasonC s)), some (.cells 26 1 0 (ruleC r)), some (.cells 43 2 g.2.length (recs spellC g.2))], []⟩)
    (fun g => s.speeds.length - g.1) (0, []) ⟨Nat.zero_le _, Nat.zero_le _, spAt_zero⟩ (.le2 ?_) ?_
  · simp (maxSteps := 4000000) only [go_sem, List.append_eq, List.cons_append, List.nil_append, Nat.reduceAdd, Nat.reduceMul, Nat.reduceSub, Nat.reduceLeDiff, Nat.reduceLT, Int.reduceAdd, Int.reduceToNat, Int.reduceLE, Int.reduceLT, Int.reduceNeg, reduceIte, ruleC, seasonC, slS, slX]
    simp [recs]
  · rintro ⟨h, out⟩ ⟨h1, h2, h3⟩
    simp only at h1 h2 h3
    simp (maxSteps := 4000000) only [go_sem, List.append_eq, List.cons_append, List.nil_append, Nat.reduceAdd, Nat.reduceMul, Nat.reduceSub, Nat.reduceLeDiff, Nat.reduceLT, Int.reduceAdd, Int.reduceToNat, Int.reduceLE, Int.reduceLT, Int.reduceNeg, reduceIte, ruleC, seasonC, slS, slX]
    (repeat' (first
    | (refine awp_seqK ?_)
    | (refine kt ?_)
    | (refine And.intro ?_ ?_)
    | ((first | refine awp_region ?_ | refine awp_draw (by kernel_rfl) (by kernel_rfl) ?_ | refine Imp.le2 ?_ | refine awp_label ?_ | refine awp_skip ?_ | refine awp_exit ?_ | refine awp_cd ?_ | refine awp_ret ?_); simp (maxSteps := 4000000) only [go_sem, List.append_eq, List.cons_append, List.nil_append, Nat.reduceAdd, Nat.reduceMul, Nat.reduceSub, Nat.reduceLeDiff, Nat.reduceLT, Int.reduceAdd, Int.reduceToNat, Int.reduceLE, Int.reduceLT, Int.reduceNeg, reduceIte, ruleC, seasonC, slS, slX])
    | (intro _h)
    | (refine awp_block ?_)
    | (refine awp_scope ?_)
    | (refine go_split (fun _h => ?_) (fun _h => ?_) <;> simp (maxSteps := 4000000) only [go_sem, List.append_eq, List.cons_append, List.nil_append, Nat.reduceAdd, Nat.reduceMul, Nat.reduceSub, Nat.reduceLeDiff, Nat.reduceLT, Int.reduceAdd, Int.reduceToNat, Int.reduceLE, Int.reduceLT, Int.reduceNeg, reduceIte, ruleC, seasonC, slS, slX])
    | (show heapOK _ _ = true; kernel_rfl)
    | (omega)))
    · refine ⟨(h + 1, out), ⟨by simp only; omega, by simp only; omega, spAt_low h3 (by omega) ‹_›⟩, by simp only; omega, .le2 ?_⟩
      simp (maxSteps := 4000000) only [go_sem, List.append_eq, List.cons_append, List.nil_append, Nat.reduceAdd, Nat.reduceMul, Nat.reduceSub, Nat.reduceLeDiff, Nat.reduceLT, Int.reduceAdd, Int.reduceToNat, Int.reduceLE, Int.reduceLT, Int.reduceNeg, reduceIte, ruleC, seasonC, slS, slX]
      simp
    · have hgt := endAt_gt (sp := s.speeds) (r := r) (h := h) (by omega) hr.1
      have hle := endAt_le (sp := s.speeds) (r := r) (h := h)
      refine awp_loopJ (γ := Nat) (fun t => t ≤ s.speeds.length ∧ stretchTo s.speeds r.back t = endAt s.speeds r h)
        (fun t => ⟨mkT 56 [(2, .ptr 0 0 0), (3, .ptr 1 0 0), (5, .osl 2 out.length 0 out.length), (6, .int .i64 h), (7, .int .i64 t)], [some (.cells 24 1 0 (seasonC s)), some (.cells 26 1 0 (ruleC r)), some (.cells 43 2 out.length (recs spellC out))], []⟩)
        (fun t => s.speeds.length - t) (min ((h : Int) + r.hold) s.speeds.length).toNat ⟨by omega, rfl⟩ (.le2 ?_) ?_
      · simp (maxSteps := 4000000) only [go_sem, List.append_eq, List.cons_append, List.nil_append, Nat.reduceAdd, Nat.reduceMul, Nat.reduceSub, Nat.reduceLeDiff, Nat.reduceLT, Int.reduceAdd, Int.reduceToNat, Int.reduceLE, Int.reduceLT, Int.reduceNeg, reduceIte, ruleC, seasonC, slS, slX]
        omega
      · rintro t ⟨ht1, ht2⟩
        simp (maxSteps := 4000000) only [go_sem, List.append_eq, List.cons_append, List.nil_append, Nat.reduceAdd, Nat.reduceMul, Nat.reduceSub, Nat.reduceLeDiff, Nat.reduceLT, Int.reduceAdd, Int.reduceToNat, Int.reduceLE, Int.reduceLT, Int.reduceNeg, reduceIte, ruleC, seasonC, slS, slX]
        (repeat' (first
    | (refine awp_seqK ?_)
    | (refine kt ?_)
    | (refine And.intro ?_ ?_)
    | ((first | refine awp_region ?_ | refine awp_draw (by kernel_rfl) (by kernel_rfl) ?_ | refine Imp.le2 ?_ | refine awp_label ?_ | refine awp_skip ?_ | refine awp_exit ?_ | refine awp_cd ?_ | refine awp_ret ?_); simp (maxSteps := 4000000) only [go_sem, List.append_eq, List.cons_append, List.nil_append, Nat.reduceAdd, Nat.reduceMul, Nat.reduceSub, Nat.reduceLeDiff, Nat.reduceLT, Int.reduceAdd, Int.reduceToNat, Int.reduceLE, Int.reduceLT, Int.reduceNeg, reduceIte, ruleC, seasonC, slS, slX])
    | (intro _h)
    | (refine awp_block ?_)
    | (refine awp_scope ?_)
    | (refine go_split (fun _h => ?_) (fun _h => ?_) <;> simp (maxSteps := 4000000) only [go_sem, List.append_eq, List.cons_append, List.nil_append, Nat.reduceAdd, Nat.reduceMul, Nat.reduceSub, Nat.reduceLeDiff, Nat.reduceLT, Int.reduceAdd, Int.reduceToNat, Int.reduceLE, Int.reduceLT, Int.reduceNeg, reduceIte, ruleC, seasonC, slS, slX])
    | (show heapOK _ _ = true; kernel_rfl)
    | (omega)))
        · refine ⟨t + 1, ⟨by omega, (stretchTo_step (by omega) ‹_›).symm.trans ht2⟩, by omega, .le2 ?_⟩
          simp (maxSteps := 4000000) only [go_sem, List.append_eq, List.cons_append, List.nil_append, Nat.reduceAdd, Nat.reduceMul, Nat.reduceSub, Nat.reduceLeDiff, Nat.reduceLT, Int.reduceAdd, Int.reduceToNat, Int.reduceLE, Int.reduceLT, Int.reduceNeg, reduceIte, ruleC, seasonC, slS, slX]
          simp
        · have : t = endAt s.speeds r h := by rw [← ht2, stretchTo_stop (by omega)]
          refine ⟨(endAt s.speeds r h, out ++ [(h, endAt s.speeds r h)]), ⟨by simp only; omega, by simp; omega, spAt_on h3 (by omega) ‹_› hr.1⟩, by simp only; omega, .le2 ?_⟩
          subst this
          simp (maxSteps := 4000000) only [go_sem, List.append_eq, List.cons_append, List.nil_append, Nat.reduceAdd, Nat.reduceMul, Nat.reduceSub, Nat.reduceLeDiff, Nat.reduceLT, Int.reduceAdd, Int.reduceToNat, Int.reduceLE, Int.reduceLT, Int.reduceNeg, reduceIte, ruleC, seasonC, slS, slX]
          simp
        · have : t = endAt s.speeds r h := by rw [← ht2, stretchTo_stop (by omega)]
          refine ⟨(endAt s.speeds r h, out ++ [(h, endAt s.speeds r h)]), ⟨by simp only; omega, by simp; omega, spAt_on h3 (by omega) ‹_› hr.1⟩, by simp only; omega, .le2 ?_⟩
          subst this
          simp (maxSteps := 4000000) only [go_sem, List.append_eq, List.cons_append, List.nil_append, Nat.reduceAdd, Nat.reduceMul, Nat.reduceSub, Nat.reduceLeDiff, Nat.reduceLT, Int.reduceAdd, Int.reduceToNat, Int.reduceLE, Int.reduceLT, Int.reduceNeg, reduceIte, ruleC, seasonC, slS, slX]
          simp
    · rw [spAt_end h3 (by omega)]
    · rw [spAt_end h3 (by omega)]
end Go.Am

/- Contracts of the alarm functions: spells of the program. -/
namespace Go.Am
open Go.RowKit Go.Proofs
attribute [local irreducible] AWP CallS Kt goK CallK stepK evOps
set_option maxRecDepth 4000
set_option linter.unusedSimpArgs false
set_option linter.unusedVariables false
set_option maxHeartbeats 800000

theorem spells_c (s : Season) (r : Rule) (hl : s.speeds.length ≤ 1000) (hr : 1 ≤ r.hold ∧ r.hold ≤ 60) : CallS Try.prog 60 [.agg (seasonC s), .agg (ruleC r)] (slX (spells s.speeds r)) := by
  (refine callS_of_awp (fun w args => Try.call60 ..) Try.func60 rfl (fun w0 m0 wz => ?_); simp only [Try.ntmps60, Try.results60, initT, junks, ruleC, seasonC, slS, slX, sl, List.toList_toArray, List.cons_append, List.nil_append, List.length_cons, List.length_nil, Nat.reduceAdd, Nat.reduceSub])
  (repeat' (first
    | (refine awp_seqK ?_)
    | (refine kt ?_)
    | (refine And.intro ?_ ?_)
    | ((first | refine awp_region ?_ | refine awp_draw (by kernel_rfl) (by kernel_rfl) ?_ | refine Imp.le2 ?_ | refine awp_label ?_ | refine awp_skip ?_ | refine awp_exit ?_ | refine awp_cd ?_ | refine awp_ret ?_); simp (maxSteps := 4000000) only [go_sem, List.append_eq, List.cons_append, List.nil_append, Nat.reduceAdd, Nat.reduceMul, Nat.reduceSub, Nat.reduceLeDiff, Nat.reduceLT, Int.reduceAdd, Int.reduceToNat, Int.reduceLE, Int.reduceLT, Int.reduceNeg, reduceIte, ruleC, seasonC, slS, slX])
    | (intro _h)
    | (refine awp_block ?_)
    | (refine awp_scope ?_)
    | (refine go_split (fun _h => ?_) (fun _h => ?_) <;> simp (maxSteps := 4000000) only [go_sem, List.append_eq, List.cons_append, List.nil_append, Nat.reduceAdd, Nat.reduceMul, Nat.reduceSub, Nat.reduceLeDiff, Nat.reduceLT, Int.reduceAdd, Int.reduceToNat, Int.reduceLE, Int.reduceLT, Int.reduceNeg, reduceIte, ruleC, seasonC, slS, slX])
    | (show heapOK _ _ = true; kernel_rfl)
    | (omega)))
  (refine awp_adT 4 42 2 rfl ?_; simp only [adT, lset, hset, List.length_cons, List.length_nil, Nat.reduceAdd])
  refine awp_loopJ (γ := Nat × Nat × Nat × List (Nat × Nat)) (fun g => g.1 ≤ s.speeds.length ∧ g.2.2.1 ≤ s.speeds.length ∧ g.2.2.2.length ≤ g.1 ∧ SpAt s.speeds r (max g.1 g.2.2.1) g.2.2.2)
    (fun g => ⟨mkT 65 [(2, .ptr 0 0 0), (3, .ptr 1 0 0), (4, .osl 3 g.2.2.2.length 0 g.2.2.2.length), (5, .ptr 2 0 0), (10, sl s.speeds), (11, .int .i64 s.speeds.length), (12, .int .i64 g.1)],
      [some (.cells 32 1 0 (seasonC s)), some (.cells 34 1 0 (ruleC r)), some (.cells 42 1 0 [.int .i64 g.2.1, .int .i64 g.2.2.1]), some (.cells 42 2 g.2.2.2.length (recs spellC g.2.2.2))], []⟩)
    (fun g => s.speeds.length - g.1) (0, 0, 0, []) ⟨Nat.zero_le _, Nat.zero_le _, Nat.zero_le _, spAt_zero⟩ (.le2 ?_) ?_
  · simp (maxSteps := 4000000) only [go_sem, List.append_eq, List.cons_append, List.nil_append, Nat.reduceAdd, Nat.reduceMul, Nat.reduceSub, Nat.reduceLeDiff, Nat.reduceLT, Int.reduceAdd, Int.reduceToNat, Int.reduceLE, Int.reduceLT, Int.reduceNeg, reduceIte, ruleC, seasonC, slS, slX]
    simp [recs]
  · rintro ⟨h, fr, to, out⟩ ⟨h1, h2, h3, h4⟩
    simp only at h1 h2 h3 h4
    simp (maxSteps := 4000000) only [go_sem, List.append_eq, List.cons_append, List.nil_append, Nat.reduceAdd, Nat.reduceMul, Nat.reduceSub, Nat.reduceLeDiff, Nat.reduceLT, Int.reduceAdd, Int.reduceToNat, Int.reduceLE, Int.reduceLT, Int.reduceNeg, reduceIte, ruleC, seasonC, slS, slX]
    (repeat' (first
    | (refine awp_seqK ?_)
    | (refine kt ?_)
    | (refine And.intro ?_ ?_)
    | ((first | refine awp_region ?_ | refine awp_draw (by kernel_rfl) (by kernel_rfl) ?_ | refine Imp.le2 ?_ | refine awp_label ?_ | refine awp_skip ?_ | refine awp_exit ?_ | refine awp_cd ?_ | refine awp_ret ?_); simp (maxSteps := 4000000) only [go_sem, List.append_eq, List.cons_append, List.nil_append, Nat.reduceAdd, Nat.reduceMul, Nat.reduceSub, Nat.reduceLeDiff, Nat.reduceLT, Int.reduceAdd, Int.reduceToNat, Int.reduceLE, Int.reduceLT, Int.reduceNeg, reduceIte, ruleC, seasonC, slS, slX])
    | (intro _h)
    | (refine awp_block ?_)
    | (refine awp_scope ?_)
    | ((first | refine callK_of (least_c _ _ _) ?_); try simp (maxSteps := 4000000) only [go_sem, List.append_eq, List.cons_append, List.nil_append, Nat.reduceAdd, Nat.reduceMul, Nat.reduceSub, Nat.reduceLeDiff, Nat.reduceLT, Int.reduceAdd, Int.reduceToNat, Int.reduceLE, Int.reduceLT, Int.reduceNeg, reduceIte, ruleC, seasonC, slS, slX])
    | (refine go_split (fun _h => ?_) (fun _h => ?_) <;> simp (maxSteps := 4000000) only [go_sem, List.append_eq, List.cons_append, List.nil_append, Nat.reduceAdd, Nat.reduceMul, Nat.reduceSub, Nat.reduceLeDiff, Nat.reduceLT, Int.reduceAdd, Int.reduceToNat, Int.reduceLE, Int.reduceLT, Int.reduceNeg, reduceIte, ruleC, seasonC, slS, slX])
    | (show heapOK _ _ = true; kernel_rfl)
    | (omega)))
    · refine ⟨(h + 1, fr, to, out), ⟨by simp only; omega, by simp only; omega, by simp only; omega, by rw [show max (h + 1) to = max h to by omega]; exact h4⟩, by simp only; omega, .le2 ?_⟩
      simp (maxSteps := 4000000) only [go_sem, List.append_eq, List.cons_append, List.nil_append, Nat.reduceAdd, Nat.reduceMul, Nat.reduceSub, Nat.reduceLeDiff, Nat.reduceLT, Int.reduceAdd, Int.reduceToNat, Int.reduceLE, Int.reduceLT, Int.reduceNeg, reduceIte, ruleC, seasonC, slS, slX]
      simp
    · refine ⟨(h + 1, fr, to, out), ⟨by simp only; omega, by simp only; omega, by simp only; omega, ?_⟩, by simp only; omega, .le2 ?_⟩
      · rw [show max h to = h by omega] at h4
        simp only
        rw [show max (h + 1) to = h + 1 by omega]
        exact spAt_low h4 (by omega) ‹_›
      · simp (maxSteps := 4000000) only [go_sem, List.append_eq, List.cons_append, List.nil_append, Nat.reduceAdd, Nat.reduceMul, Nat.reduceSub, Nat.reduceLeDiff, Nat.reduceLT, Int.reduceAdd, Int.reduceToNat, Int.reduceLE, Int.reduceLT, Int.reduceNeg, reduceIte, ruleC, seasonC, slS, slX]
        simp
    · rw [show max h to = h by omega] at h4
      have hgt := endAt_gt (sp := s.speeds) (r := r) (h := h) (by omega) hr.1
      have hle := endAt_le (sp := s.speeds) (r := r) (h := h)
      refine awp_loopJ (γ := Nat) (fun t => t ≤ s.speeds.length ∧ stretchTo s.speeds r.back t = endAt s.speeds r h)
        (fun t => ⟨mkT 65 [(2, .ptr 0 0 0), (3, .ptr 1 0 0), (4, .osl 3 out.length 0 out.length), (5, .ptr 2 0 0), (10, sl s.speeds), (11, .int .i64 s.speeds.length), (12, .int .i64 h)],
          [some (.cells 32 1 0 (seasonC s)), some (.cells 34 1 0 (ruleC r)), some (.cells 42 1 0 [.int .i64 h, .int .i64 t]), some (.cells 42 2 out.length (recs spellC out))], []⟩)
        (fun t => s.speeds.length - t) (min ((h : Int) + r.hold) s.speeds.length).toNat ⟨by omega, rfl⟩ (.le2 ?_) ?_
      · simp (maxSteps := 4000000) only [go_sem, List.append_eq, List.cons_append, List.nil_append, Nat.reduceAdd, Nat.reduceMul, Nat.reduceSub, Nat.reduceLeDiff, Nat.reduceLT, Int.reduceAdd, Int.reduceToNat, Int.reduceLE, Int.reduceLT, Int.reduceNeg, reduceIte, ruleC, seasonC, slS, slX]
        simp
        omega
      · rintro t ⟨ht1, ht2⟩
        simp (maxSteps := 4000000) only [go_sem, List.append_eq, List.cons_append, List.nil_append, Nat.reduceAdd, Nat.reduceMul, Nat.reduceSub, Nat.reduceLeDiff, Nat.reduceLT, Int.reduceAdd, Int.reduceToNat, Int.reduceLE, Int.reduceLT, Int.reduceNeg, reduceIte, ruleC, seasonC, slS, slX]
        (repeat' (first
    | (refine awp_seqK ?_)
    | (refine kt ?_)
    | (refine And.intro ?_ ?_)
    | ((first | refine awp_region ?_ | refine awp_draw (by kernel_rfl) (by kernel_rfl) ?_ | refine Imp.le2 ?_ | refine awp_label ?_ | refine awp_skip ?_ | refine awp_exit ?_ | refine awp_cd ?_ | refine awp_ret ?_); simp (maxSteps := 4000000) only [go_sem, List.append_eq, List.cons_append, List.nil_append, Nat.reduceAdd, Nat.reduceMul, Nat.reduceSub, Nat.reduceLeDiff, Nat.reduceLT, Int.reduceAdd, Int.reduceToNat, Int.reduceLE, Int.reduceLT, Int.reduceNeg, reduceIte, ruleC, seasonC, slS, slX])
    | (intro _h)
    | (refine awp_block ?_)
    | (refine awp_scope ?_)
    | (refine go_split (fun _h => ?_) (fun _h => ?_) <;> simp (maxSteps := 4000000) only [go_sem, List.append_eq, List.cons_append, List.nil_append, Nat.reduceAdd, Nat.reduceMul, Nat.reduceSub, Nat.reduceLeDiff, Nat.reduceLT, Int.reduceAdd, Int.reduceToNat, Int.reduceLE, Int.reduceLT, Int.reduceNeg, reduceIte, ruleC, seasonC, slS, slX])
    | (show heapOK _ _ = true; kernel_rfl)
    | (omega)))
        · refine ⟨t + 1, ⟨by omega, (stretchTo_step (by omega) ‹_›).symm.trans ht2⟩, by omega, .le2 ?_⟩
          simp (maxSteps := 4000000) only [go_sem, List.append_eq, List.cons_append, List.nil_append, Nat.reduceAdd, Nat.reduceMul, Nat.reduceSub, Nat.reduceLeDiff, Nat.reduceLT, Int.reduceAdd, Int.reduceToNat, Int.reduceLE, Int.reduceLT, Int.reduceNeg, reduceIte, ruleC, seasonC, slS, slX]
          simp
        · have : t = endAt s.speeds r h := by rw [← ht2, stretchTo_stop (by omega)]
          refine ⟨(h + 1, h, endAt s.speeds r h, out ++ [(h, endAt s.speeds r h)]), ⟨by simp only; omega, by simp only; omega, by simp; omega, ?_⟩, by simp only; omega, .le2 ?_⟩
          · simp only
            rw [show max (h + 1) (endAt s.speeds r h) = endAt s.speeds r h by omega]
            exact spAt_on h4 (by omega) ‹_› hr.1
          · subst this
            simp (maxSteps := 4000000) only [go_sem, List.append_eq, List.cons_append, List.nil_append, Nat.reduceAdd, Nat.reduceMul, Nat.reduceSub, Nat.reduceLeDiff, Nat.reduceLT, Int.reduceAdd, Int.reduceToNat, Int.reduceLE, Int.reduceLT, Int.reduceNeg, reduceIte, ruleC, seasonC, slS, slX]
            simp
        · have : t = endAt s.speeds r h := by rw [← ht2, stretchTo_stop (by omega)]
          refine ⟨(h + 1, h, endAt s.speeds r h, out ++ [(h, endAt s.speeds r h)]), ⟨by simp only; omega, by simp only; omega, by simp; omega, ?_⟩, by simp only; omega, .le2 ?_⟩
          · simp only
            rw [show max (h + 1) (endAt s.speeds r h) = endAt s.speeds r h by omega]
            exact spAt_on h4 (by omega) ‹_› hr.1
          · subst this
            simp (maxSteps := 4000000) only [go_sem, List.append_eq, List.cons_append, List.nil_append, Nat.reduceAdd, Nat.reduceMul, Nat.reduceSub, Nat.reduceLeDiff, Nat.reduceLT, Int.reduceAdd, Int.reduceToNat, Int.reduceLE, Int.reduceLT, Int.reduceNeg, reduceIte, ruleC, seasonC, slS, slX]
            simp
    · rw [spAt_end h4 (by omega)]
    · rw [spAt_end h4 (by omega)]
theorem Spells_c (s : Season) (r : Rule) (hl : s.speeds.length ≤ 9223372036854775807) :
    CallS Try.prog 18 [.agg (seasonC s), .agg (ruleC r)] (.tup [slX (spellsOf s r), .int .i64 (errSp s r)]) := by
  have h1 := seasons_c [s] ⟨by simp, fun i hi => by simp at hi; subst hi; exact hl⟩
  have h2 := ruleValid_c r
  simp only [slS, recs, List.flatMap_cons, List.flatMap_nil, seasonC, sl, ruleC, List.length_cons, List.length_nil, List.append_nil] at h1 h2
  unfold spellsOf errSp
  (refine callS_of_awp (fun w args => Try.call18 ..) Try.func18 rfl (fun w0 m0 wz => ?_); simp only [Try.ntmps18, Try.results18, initT, junks, ruleC, seasonC, slS, slX, sl, List.toList_toArray, List.cons_append, List.nil_append, List.length_cons, List.length_nil, Nat.reduceAdd, Nat.reduceSub])
  (repeat' (first
    | (refine awp_seqK ?_)
    | (refine kt ?_)
    | (refine And.intro ?_ ?_)
    | ((first | refine awp_region ?_ | refine awp_draw (by kernel_rfl) (by kernel_rfl) ?_ | refine Imp.le2 ?_ | refine awp_label ?_ | refine awp_skip ?_ | refine awp_exit ?_ | refine awp_cd ?_ | refine awp_ret ?_); simp (maxSteps := 4000000) only [go_sem, List.append_eq, List.cons_append, List.nil_append, Nat.reduceAdd, Nat.reduceMul, Nat.reduceSub, Nat.reduceLeDiff, Nat.reduceLT, Int.reduceAdd, Int.reduceToNat, Int.reduceLE, Int.reduceLT, Int.reduceNeg, reduceIte, ruleC, seasonC, slS, slX])
    | (intro _h)
    | (refine awp_block ?_)
    | (refine awp_scope ?_)
    | ((first | refine callK_of (CallS.sub (h1) (by simp [subL, avSub])) ?_ | refine callK_of (h2) ?_ | refine callK_of (spells_c _ _ (by have := (faultS_zero ‹_›).2.1 s (by simp); omega) (ruleB_true ‹_›).2.2) ?_); try simp (maxSteps := 4000000) only [go_sem, List.append_eq, List.cons_append, List.nil_append, Nat.reduceAdd, Nat.reduceMul, Nat.reduceSub, Nat.reduceLeDiff, Nat.reduceLT, Int.reduceAdd, Int.reduceToNat, Int.reduceLE, Int.reduceLT, Int.reduceNeg, reduceIte, ruleC, seasonC, slS, slX])
    | (refine go_split (fun _h => ?_) (fun _h => ?_) <;> simp (maxSteps := 4000000) only [go_sem, List.append_eq, List.cons_append, List.nil_append, Nat.reduceAdd, Nat.reduceMul, Nat.reduceSub, Nat.reduceLeDiff, Nat.reduceLT, Int.reduceAdd, Int.reduceToNat, Int.reduceLE, Int.reduceLT, Int.reduceNeg, reduceIte, ruleC, seasonC, slS, slX])
    | (show heapOK _ _ = true; kernel_rfl)
    | (omega))) <;> simp [*, recs]
end Go.Am

/- Plain words for the alarms: how spells lie, prices, the best rule. No program is in sight. -/
namespace Go.Am

/-! ### How spells lie -/
def spL (sp : List Int) (r : Rule) : Nat → Nat → List (Nat × Nat)
  | 0, _ => []
  | f + 1, h => if h < sp.length then (if sp.getD h 0 < r.start then spL sp r f (h + 1) else (h, endAt sp r h) :: spL sp r f (endAt sp r h)) else []
theorem spellsFrom_eq {sp : List Int} {r : Rule} : ∀ (f h : Nat) (out : List (Nat × Nat)), spellsFrom sp r f h out = out ++ spL sp r f h
  | 0, _, out => by simp [spellsFrom, spL]
  | f + 1, h, out => by
    simp only [spellsFrom, spL]
    split
    · split
      · exact spellsFrom_eq f _ _
      · rw [spellsFrom_eq f]; simp
    · simp
theorem spells_eq {sp : List Int} {r : Rule} : spells sp r = spL sp r sp.length 0 := by simp [spells, spellsFrom_eq]
/-- One behind the other. -/
def Chain (n : Nat) : Nat → List (Nat × Nat) → Prop
  | _, [] => True
  | lo, x :: l => lo ≤ x.1 ∧ x.1 < x.2 ∧ x.2 ≤ n ∧ Chain n x.2 l
theorem Chain.low {n : Nat} : ∀ {l : List (Nat × Nat)} {lo lo' : Nat}, Chain n lo l → lo' ≤ lo → Chain n lo' l
  | [], _, _, _, _ => trivial
  | _ :: _, _, _, h, hl => ⟨Nat.le_trans hl h.1, h.2⟩
theorem spL_chain {sp : List Int} {r : Rule} (hr : 1 ≤ r.hold) : ∀ (f h : Nat), Chain sp.length h (spL sp r f h)
  | 0, _ => trivial
  | f + 1, h => by
    simp only [spL]
    split
    · rename_i hh
      split
      · exact (spL_chain hr f (h + 1)).low (by omega)
      · exact ⟨Nat.le_refl _, endAt_gt hh hr, endAt_le, spL_chain hr f _⟩
    · trivial
theorem spells_chain {sp : List Int} {r : Rule} (hr : 1 ≤ r.hold) : Chain sp.length 0 (spells sp r) := by rw [spells_eq]; exact spL_chain hr _ _
theorem Chain.at {n : Nat} : ∀ {l : List (Nat × Nat)} {lo : Nat}, Chain n lo l → ∀ i, i < l.length → lo ≤ (l.getD i (0, 0)).1 ∧ (l.getD i (0, 0)).1 < (l.getD i (0, 0)).2 ∧ (l.getD i (0, 0)).2 ≤ n
  | [], _, _, i, hi => by simp at hi
  | x :: l, lo, h, 0, _ => ⟨h.1, h.2.1, h.2.2.1⟩
  | x :: l, lo, h, i + 1, hi => by
    have := Chain.at h.2.2.2 i (by simpa using hi)
    simp only [List.getD_cons_succ]
    have h1 := h.1
    have h2 := h.2.1
    exact ⟨by omega, this.2⟩
theorem Chain.lt {n : Nat} : ∀ {l : List (Nat × Nat)} {lo : Nat}, Chain n lo l → ∀ i j, i < j → j < l.length → (l.getD i (0, 0)).2 ≤ (l.getD j (0, 0)).1
  | [], _, _, i, j, _, hj => by simp at hj
  | x :: l, lo, h, 0, j + 1, _, hj => by simpa using (Chain.at h.2.2.2 j (by simpa using hj)).1
  | x :: l, lo, h, i + 1, j + 1, hij, hj => by simpa using Chain.lt h.2.2.2 i j (by omega) (by simpa using hj)
  | x :: l, lo, h, i, 0, hij, _ => by omega

/-! ### Prices -/
structure Terms where
  out : Int
  price : Int
  hour : Int
  less : Int
  hold : Int
def termsB (t : Terms) : Bool := decide ((0 ≤ t.out ∧ t.out ≤ 60) ∧ (0 ≤ t.price ∧ t.price ≤ 1000) ∧ (0 ≤ t.hour ∧ t.hour ≤ 1000) ∧ (0 ≤ t.less ∧ t.less ≤ 1000) ∧ 1 ≤ t.hold ∧ t.hold ≤ 60)
theorem termsB_true {t : Terms} (h : termsB t = true) : (0 ≤ t.out ∧ t.out ≤ 60) ∧ (0 ≤ t.price ∧ t.price ≤ 1000) ∧ (0 ≤ t.hour ∧ t.hour ≤ 1000) ∧ (0 ≤ t.less ∧ t.less ≤ 1000) ∧ 1 ≤ t.hold ∧ t.hold ≤ 60 := of_decide_eq_true h
/-- The error of seasons with terms. -/
def pricedE (l : List Season) (t : Terms) : Int := if faultS l = 0 then (if l.length = 0 then 1 else if termsB t = true then 0 else 2) else faultS l
theorem pricedE_zero {l : List Season} {t : Terms} (h : pricedE l t = 0) : faultS l = 0 ∧ 0 < l.length ∧ termsB t = true := by
  unfold pricedE at h
  split at h
  · split at h
    · omega
    · split at h
      · rename_i h1 h2 h3; exact ⟨h1, by omega, h3⟩
      · omega
  · omega

def sumTo {α : Type} (f : α → Int) (l : List α) (k : Nat) : Int := ((l.take k).map f).sum
theorem sumTo_zero {α : Type} {f : α → Int} {l : List α} : sumTo f l 0 = 0 := by simp [sumTo]
theorem sumTo_succ {α : Type} {f : α → Int} {l : List α} {k : Nat} (d : α) (h : k < l.length) : sumTo f l (k + 1) = sumTo f l k + f (l.getD k d) := by
  unfold sumTo
  rw [List.take_succ_eq_append_getElem h, List.map_append, List.sum_append]
  have : l.getD k d = l[k] := by simp [List.getD_eq_getElem?_getD, h]
  rw [this]
  simp only [List.map_cons, List.map_nil, List.sum_cons, List.sum_nil]
  omega
theorem sumTo_bd {α : Type} {f : α → Int} {l : List α} (B : Int) (d : α) (h : ∀ k, k < l.length → 0 ≤ f (l.getD k d) ∧ f (l.getD k d) ≤ B) : ∀ k, k ≤ l.length → 0 ≤ sumTo f l k ∧ sumTo f l k ≤ k * B := by
  intro k
  induction k with
  | zero => intro _; simp [sumTo]
  | succ k ih =>
    intro hk
    have h1 := ih (by omega)
    have h2 := h k (by omega)
    rw [sumTo_succ d (by omega)]
    have : ((k + 1 : Nat) : Int) * B = k * B + B := by rw [Int.natCast_add, Int.add_mul]; simp
    omega

def spellCost (t : Terms) (s : Season) (x : Nat × Nat) : Int := t.hour * ((x.2 : Int) - x.1) + (if s.fell = true ∧ x.2 = s.speeds.length then 0 else t.price)
theorem spellCost_pos {t : Terms} {s : Season} {x : Nat × Nat} (h : s.fell = true ∧ x.2 = s.speeds.length) : spellCost t s x = t.hour * ((x.2 : Int) - x.1) := by
  unfold spellCost; rw [if_pos h]; omega
theorem spellCost_neg {t : Terms} {s : Season} {x : Nat × Nat} (h : ¬ (s.fell = true ∧ x.2 = s.speeds.length)) : spellCost t s x = t.hour * ((x.2 : Int) - x.1) + t.price := by
  unfold spellCost; rw [if_neg h]
def savedB (t : Terms) (s : Season) (x : Nat × Nat) : Bool := decide (x.2 = s.speeds.length ∧ max 1 t.out ≤ (x.2 : Int) - x.1)
def priceS (t : Terms) (r : Rule) (s : Season) : Int := sumTo (spellCost t s) (spells s.speeds r) (spells s.speeds r).length
def inTimeS (t : Terms) (r : Rule) (s : Season) : Bool := !s.fell || (spells s.speeds r).any (savedB t s)
def totalP (l : List Season) (t : Terms) (r : Rule) : Int := sumTo (priceS t r) l l.length
def totalI (l : List Season) (t : Terms) (r : Rule) : Bool := l.all (inTimeS t r)

theorem cost_bd {t : Terms} {s : Season} {x : Nat × Nat} (ht : termsB t = true) (h1 : x.1 < x.2) (h2 : x.2 ≤ s.speeds.length) (h3 : s.speeds.length ≤ 60) : 0 ≤ t.hour * ((x.2 : Int) - x.1) ∧ t.hour * ((x.2 : Int) - x.1) ≤ 60000 ∧ 0 ≤ spellCost t s x ∧ spellCost t s x ≤ 61000 := by
  obtain ⟨_, hp, hh, _, _⟩ := termsB_true ht
  have hd : 0 ≤ (x.2 : Int) - x.1 ∧ (x.2 : Int) - x.1 ≤ 60 := by omega
  have m1 : 0 ≤ t.hour * ((x.2 : Int) - x.1) := Int.mul_nonneg hh.1 hd.1
  have m2 : t.hour * ((x.2 : Int) - x.1) ≤ 1000 * 60 := Int.mul_le_mul hh.2 hd.2 hd.1 (by omega)
  unfold spellCost
  split <;> omega

/-- Only the last spell can be on at the end. -/
theorem last_only {n : Nat} {l : List (Nat × Nat)} {lo : Nat} (h : Chain n lo l) {i : Nat} (hi : i < l.length) (he : (l.getD i (0, 0)).2 = n) : i = l.length - 1 := by
  rcases Nat.lt_or_ge (i + 1) l.length with h1 | h1
  · have h2 := h.lt i (i + 1) (by omega) h1
    have h3 := h.at (i + 1) h1
    omega
  · omega
theorem any_last {t : Terms} {s : Season} {l : List (Nat × Nat)} {lo : Nat} (h : Chain s.speeds.length lo l) : l.any (savedB t s) = (decide (0 < l.length) && savedB t s (l.getD (l.length - 1) (0, 0))) := by
  rw [Bool.eq_iff_iff]
  simp only [List.any_eq_true, Bool.and_eq_true, decide_eq_true_eq]
  constructor
  · rintro ⟨x, hx, hs⟩
    obtain ⟨i, hi, rfl⟩ := List.mem_iff_getElem.1 hx
    have he : l.getD i (0, 0) = l[i] := by simp [List.getD_eq_getElem?_getD, hi]
    have h2 : (l.getD i (0, 0)).2 = s.speeds.length := by rw [he]; simp [savedB] at hs; exact hs.1
    have := last_only h hi h2
    rw [← this, he]
    exact ⟨by omega, hs⟩
  · rintro ⟨h1, h2⟩
    refine ⟨_, ?_, h2⟩
    have : l.length - 1 < l.length := by omega
    rw [show l.getD (l.length - 1) (0, 0) = l[l.length - 1] by simp [List.getD_eq_getElem?_getD, this]]
    exact List.getElem_mem _

/-! ### The best rule -/
def ruleAt (t : Terms) (start : Nat) : Rule := ⟨start, max 0 ((start : Int) - t.less), t.hold⟩
theorem ruleAt_ok {t : Terms} {k : Nat} (ht : termsB t = true) (hk : k ≤ 1000) : ruleB (ruleAt t k) = true := by
  obtain ⟨_, _, _, hl, hh⟩ := termsB_true ht
  refine decide_eq_true ?_
  simp only [ruleAt]
  exact ⟨by omega, by omega, hh⟩
def tryAt (l : List Season) (t : Terms) (k : Nat) : Option Int := if totalI l t (ruleAt t k) = true then some (totalP l t (ruleAt t k)) else none
def bestUp (f : Nat → Option Int) : Nat → Option (Nat × Int)
  | 0 => none
  | k + 1 => match f k with
    | none => bestUp f k
    | some n => match bestUp f k with
      | none => some (k, n)
      | some p => if n ≤ p.2 then some (k, n) else some p
def bestDn (f : Nat → Option Int) (N : Nat) : Nat → Option (Nat × Int)
  | 0 => none
  | k + 1 => match f (N - 1 - k) with
    | none => bestDn f N k
    | some n => match bestDn f N k with
      | none => some (N - 1 - k, n)
      | some p => if n < p.2 then some (N - 1 - k, n) else some p
/-- What the best one is. -/
def IsBest (f : Nat → Option Int) (lo hi : Nat) : Option (Nat × Int) → Prop
  | none => ∀ k, lo ≤ k → k < hi → f k = none
  | some p => lo ≤ p.1 ∧ p.1 < hi ∧ f p.1 = some p.2 ∧ ∀ k n, lo ≤ k → k < hi → f k = some n → p.2 < n ∨ (p.2 = n ∧ k ≤ p.1)
theorem bestUp_is (f : Nat → Option Int) : ∀ k, IsBest f 0 k (bestUp f k)
  | 0 => fun k _ h => by omega
  | k + 1 => by
    have ih := bestUp_is f k
    simp only [bestUp]
    cases hf : f k with
    | none =>
      simp only
      cases hb : bestUp f k with
      | none =>
        rw [hb] at ih
        intro j h1 h2
        rcases Nat.lt_succ_iff_lt_or_eq.1 h2 with h | rfl
        · exact ih j h1 h
        · exact hf
      | some p =>
        rw [hb] at ih
        obtain ⟨a, b, c, d⟩ := ih
        refine ⟨a, by omega, c, fun j n h1 h2 h3 => ?_⟩
        rcases Nat.lt_succ_iff_lt_or_eq.1 h2 with h | rfl
        · exact d j n h1 h h3
        · rw [hf] at h3; cases h3
    | some n =>
      simp only
      cases hb : bestUp f k with
      | none =>
        rw [hb] at ih
        refine ⟨Nat.zero_le _, by simp, hf, fun j m h1 h2 h3 => ?_⟩
        rcases Nat.lt_succ_iff_lt_or_eq.1 h2 with h | rfl
        · rw [ih j h1 h] at h3; cases h3
        · rw [hf] at h3; cases h3; exact .inr ⟨rfl, Nat.le_refl _⟩
      | some p =>
        rw [hb] at ih
        obtain ⟨a, b, c, d⟩ := ih
        simp only
        split
        · rename_i hle
          refine ⟨Nat.zero_le _, by simp, hf, fun j m h1 h2 h3 => ?_⟩
          rcases Nat.lt_succ_iff_lt_or_eq.1 h2 with h | rfl
          · have := d j m h1 h h3
            simp only
            omega
          · rw [hf] at h3; cases h3; exact .inr ⟨rfl, Nat.le_refl _⟩
        · rename_i hle
          refine ⟨a, by omega, c, fun j m h1 h2 h3 => ?_⟩
          rcases Nat.lt_succ_iff_lt_or_eq.1 h2 with h | rfl
          · exact d j m h1 h h3
          · rw [hf] at h3; cases h3; exact .inl (by omega)
theorem bestDn_is (f : Nat → Option Int) (N : Nat) : ∀ k, k ≤ N → IsBest f (N - k) N (bestDn f N k)
  | 0, _ => fun k h1 h2 => by omega
  | k + 1, hk => by
    have ih := bestDn_is f N k (by omega)
    have e1 : N - (k + 1) = N - 1 - k := by omega
    simp only [bestDn]
    cases hf : f (N - 1 - k) with
    | none =>
      simp only
      cases hb : bestDn f N k with
      | none =>
        rw [hb] at ih
        intro j h1 h2
        by_cases hj : j = N - 1 - k
        · rw [hj]; exact hf
        · exact ih j (by omega) h2
      | some p =>
        rw [hb] at ih
        obtain ⟨a, b, c, d⟩ := ih
        refine ⟨by omega, b, c, fun j n h1 h2 h3 => ?_⟩
        by_cases hj : j = N - 1 - k
        · rw [hj, hf] at h3; cases h3
        · exact d j n (by omega) h2 h3
    | some n =>
      simp only
      cases hb : bestDn f N k with
      | none =>
        rw [hb] at ih
        refine ⟨by simp only; omega, by simp only; omega, hf, fun j m h1 h2 h3 => ?_⟩
        by_cases hj : j = N - 1 - k
        · rw [hj, hf] at h3; cases h3; exact .inr ⟨rfl, by simp only; omega⟩
        · rw [ih j (by omega) h2] at h3; cases h3
      | some p =>
        rw [hb] at ih
        obtain ⟨a, b, c, d⟩ := ih
        simp only
        split
        · rename_i hlt
          refine ⟨by simp only; omega, by simp only; omega, hf, fun j m h1 h2 h3 => ?_⟩
          by_cases hj : j = N - 1 - k
          · rw [hj, hf] at h3; cases h3; exact .inr ⟨rfl, by simp only; omega⟩
          · have := d j m (by omega) h2 h3
            simp only
            omega
        · rename_i hlt
          refine ⟨by omega, b, c, fun j m h1 h2 h3 => ?_⟩
          by_cases hj : j = N - 1 - k
          · rw [hj, hf] at h3; cases h3
            have : p.2 ≤ n := by omega
            rcases Int.lt_or_eq_of_le this with h | h
            · exact .inl h
            · exact .inr ⟨h, by omega⟩
          · exact d j m (by omega) h2 h3
theorem IsBest.uniq {f : Nat → Option Int} {lo hi : Nat} {a b : Option (Nat × Int)} (ha : IsBest f lo hi a) (hb : IsBest f lo hi b) : a = b := by
  cases a with
  | none =>
    cases b with
    | none => rfl
    | some q => obtain ⟨h1, h2, h3, _⟩ := hb; rw [ha q.1 h1 h2] at h3; cases h3
  | some p =>
    obtain ⟨h1, h2, h3, h4⟩ := ha
    cases b with
    | none => rw [hb p.1 h1 h2] at h3; cases h3
    | some q =>
      obtain ⟨k1, k2, k3, k4⟩ := hb
      have x := h4 q.1 q.2 k1 k2 k3
      have y := k4 p.1 p.2 h1 h2 h3
      have e2 : p.2 = q.2 := by omega
      have e1 : p.1 = q.1 := by omega
      rw [show p = (p.1, p.2) from rfl, e1, e2]
theorem best_same (f : Nat → Option Int) (N : Nat) : bestUp f N = bestDn f N N := by
  have := bestDn_is f N N (Nat.le_refl _)
  rw [Nat.sub_self] at this
  exact (bestUp_is f N).uniq this
end Go.Am

/- Structs and bools that are compared, in the walk. -/
namespace Go.Am
open Go.RowKit Go.Proofs
section
variable {P : Program} {t : TypeId} {K : AV → Prop} {k1 k2 k3 : IntKind} {a b c d e f : Int}
theorem bin_agg2 (h : tkb P t = some [false, false]) : binK P .eql t (.agg [.int k1 a, .int k2 b]) (.agg [.int k1 c, .int k2 d]) K = K (.bool (decide (a = c ∧ b = d))) := by
  have hs : scalEq [.int k1 a, .int k2 b] [.int k1 c, .int k2 d] = some (decide (a = c ∧ b = d)) := by simp [scalEq, Bool.decide_and]
  simp only [binK, hs, eq_true (eqOK (P := P) t), List.map_cons, List.map_nil, kindB, h, true_and]
theorem bin_agg2n (h : tkb P t = some [false, false]) : binK P .neq t (.agg [.int k1 a, .int k2 b]) (.agg [.int k1 c, .int k2 d]) K = K (.bool (!decide (a = c ∧ b = d))) := by
  have hs : scalEq [.int k1 a, .int k2 b] [.int k1 c, .int k2 d] = some (decide (a = c ∧ b = d)) := by simp [scalEq, Bool.decide_and]
  simp only [binK, hs, eq_true (eqOK (P := P) t), List.map_cons, List.map_nil, kindB, h, true_and]
theorem bin_agg3 (h : tkb P t = some [false, false, false]) : binK P .eql t (.agg [.int k1 a, .int k2 b, .int k3 e]) (.agg [.int k1 c, .int k2 d, .int k3 f]) K = K (.bool (decide (a = c ∧ b = d ∧ e = f))) := by
  have hs : scalEq [.int k1 a, .int k2 b, .int k3 e] [.int k1 c, .int k2 d, .int k3 f] = some (decide (a = c ∧ b = d ∧ e = f)) := by simp [scalEq, Bool.decide_and]
  simp only [binK, hs, eq_true (eqOK (P := P) t), List.map_cons, List.map_nil, kindB, h, true_and]
theorem bin_agg3n (h : tkb P t = some [false, false, false]) : binK P .neq t (.agg [.int k1 a, .int k2 b, .int k3 e]) (.agg [.int k1 c, .int k2 d, .int k3 f]) K = K (.bool (!decide (a = c ∧ b = d ∧ e = f))) := by
  have hs : scalEq [.int k1 a, .int k2 b, .int k3 e] [.int k1 c, .int k2 d, .int k3 f] = some (decide (a = c ∧ b = d ∧ e = f)) := by simp [scalEq, Bool.decide_and]
  simp only [binK, hs, eq_true (eqOK (P := P) t), List.map_cons, List.map_nil, kindB, h, true_and]
theorem bin_bool (h : P.underlying t = some .bool) {x y : Bool} : binK P .eql t (.bool x) (.bool y) K = K (.bool (decide (x = y))) := by
  simp only [binK, h, true_and]
  congr 2
theorem bin_booln (h : P.underlying t = some .bool) {x y : Bool} : binK P .neq t (.bool x) (.bool y) K = K (.bool (!decide (x = y))) := by
  simp only [binK, h, true_and]
  congr 2
end
theorem tkb42 : tkb Try.prog 42 = some [false, false] := by kernel_rfl
theorem tkb34 : tkb Try.prog 34 = some [false, false, false] := by kernel_rfl
theorem tkb58 : tkb Try.prog 58 = some [false, false, false] := by kernel_rfl
theorem tkb122 : tkb Try.prog 122 = some [false, false] := by kernel_rfl
theorem eq42 {K : AV → Prop} {a b c d : Int} : binK Try.prog .eql 42 (.agg [.int .i64 a, .int .i64 b]) (.agg [.int .i64 c, .int .i64 d]) K = K (.bool (decide (a = c ∧ b = d))) := bin_agg2 tkb42
theorem ne42 {K : AV → Prop} {a b c d : Int} : binK Try.prog .neq 42 (.agg [.int .i64 a, .int .i64 b]) (.agg [.int .i64 c, .int .i64 d]) K = K (.bool (!decide (a = c ∧ b = d))) := bin_agg2n tkb42
theorem eq122 {K : AV → Prop} {a b c d : Int} : binK Try.prog .eql 122 (.agg [.int .i64 a, .int .i64 b]) (.agg [.int .i64 c, .int .i64 d]) K = K (.bool (decide (a = c ∧ b = d))) := bin_agg2 tkb122
theorem eq34 {K : AV → Prop} {a b c d e f : Int} : binK Try.prog .eql 34 (.agg [.int .i64 a, .int .i64 b, .int .i64 e]) (.agg [.int .i64 c, .int .i64 d, .int .i64 f]) K = K (.bool (decide (a = c ∧ b = d ∧ e = f))) := bin_agg3 tkb34
theorem eq58 {K : AV → Prop} {a b c d e f : Int} : binK Try.prog .eql 58 (.agg [.int .i64 a, .int .i64 b, .int .u8 e]) (.agg [.int .i64 c, .int .i64 d, .int .u8 f]) K = K (.bool (decide (a = c ∧ b = d ∧ e = f))) := bin_agg3 tkb58
theorem ne58 {K : AV → Prop} {a b c d e f : Int} : binK Try.prog .neq 58 (.agg [.int .i64 a, .int .i64 b, .int .u8 e]) (.agg [.int .i64 c, .int .i64 d, .int .u8 f]) K = K (.bool (!decide (a = c ∧ b = d ∧ e = f))) := bin_agg3n tkb58
theorem eqB {K : AV → Prop} {x y : Bool} : binK Try.prog .eql 4 (.bool x) (.bool y) K = K (.bool (decide (x = y))) := bin_bool Try.underlying4
theorem neB {K : AV → Prop} {x y : Bool} : binK Try.prog .neq 4 (.bool x) (.bool y) K = K (.bool (!decide (x = y))) := bin_booln Try.underlying4
attribute [go_sem] eq42 ne42 eq122 eq34 eq58 ne58 eqB neB
end Go.Am

/- Contracts of the alarm functions: the price of a season. -/
namespace Go.Am
open Go.RowKit Go.Proofs
attribute [local irreducible] AWP CallS Kt goK CallK stepK evOps
set_option maxRecDepth 4000
set_option linter.unusedSimpArgs false
set_option linter.unusedVariables false
set_option maxHeartbeats 1600000

def termsC (t : Terms) : List AV := [.int .i64 t.out, .int .i64 t.price, .int .i64 t.hour, .int .i64 t.less, .int .i64 t.hold]

theorem price_c0 (sp : List Int) (t : Terms) (r : Rule) (hl : sp.length ≤ 60) (ht : termsB t = true) (hr : 1 ≤ r.hold ∧ r.hold ≤ 60) :
    CallS Try.prog 94 [.agg (seasonC ⟨sp, false⟩), .agg (termsC t), .agg (ruleC r)] (.tup [.int .i64 (priceS t r ⟨sp, false⟩), .bool (inTimeS t r ⟨sp, false⟩)]) := by
  have hsp := spells_c ⟨sp, false⟩ r (by simp only; omega) hr
  have hch := spells_chain (sp := sp) hr.1
  have hle := spells_le (sp := sp) (r := r)
  obtain ⟨tt1, tt2, tt3, tt4, tt5⟩ := termsB_true ht
  simp only [seasonC, sl, ruleC, slX] at hsp
  simp only [priceS, inTimeS]
  generalize spells sp r = xs at *
  (refine callS_of_awp (fun w args => Try.call94 ..) Try.func94 rfl (fun w0 m0 wz => ?_); simp only [Try.ntmps94, Try.results94, initT, junks, ruleC, seasonC, slS, slX, termsC, spellC, sl, List.toList_toArray, List.cons_append, List.nil_append, List.length_cons, List.length_nil, Nat.reduceAdd, Nat.reduceSub])
  (repeat' (first
    | (refine awp_seqK ?_)
    | (refine kt ?_)
    | (refine And.intro ?_ ?_)
    | ((first | refine awp_region ?_ | refine awp_draw (by kernel_rfl) (by kernel_rfl) ?_ | refine Imp.le2 ?_ | refine awp_label ?_ | refine awp_skip ?_ | refine awp_exit ?_ | refine awp_cd ?_ | refine awp_ret ?_); simp (maxSteps := 4000000) only [go_sem, List.append_eq, List.cons_append, List.nil_append, Nat.reduceAdd, Nat.reduceMul, Nat.reduceSub, Nat.reduceLeDiff, Nat.reduceLT, Int.reduceAdd, Int.reduceToNat, Int.reduceLE, Int.reduceLT, Int.reduceNeg, reduceIte, ruleC, seasonC, slS, slX, termsC, spellC])
    | (intro _h)
    | (refine awp_block ?_)
    | (refine awp_scope ?_)
    | ((first | refine callK_of (hsp) ?_ | refine callK_of (greatest_c _ _ _) ?_); try simp (maxSteps := 4000000) only [go_sem, List.append_eq, List.cons_append, List.nil_append, Nat.reduceAdd, Nat.reduceMul, Nat.reduceSub, Nat.reduceLeDiff, Nat.reduceLT, Int.reduceAdd, Int.reduceToNat, Int.reduceLE, Int.reduceLT, Int.reduceNeg, reduceIte, ruleC, seasonC, slS, slX, termsC, spellC])
    | (refine go_split (fun _h => ?_) (fun _h => ?_) <;> simp (maxSteps := 4000000) only [go_sem, List.append_eq, List.cons_append, List.nil_append, Nat.reduceAdd, Nat.reduceMul, Nat.reduceSub, Nat.reduceLeDiff, Nat.reduceLT, Int.reduceAdd, Int.reduceToNat, Int.reduceLE, Int.reduceLT, Int.reduceNeg, reduceIte, ruleC, seasonC, slS, slX, termsC, spellC])
    | (show heapOK _ _ = true; kernel_rfl)
    | (omega)))
  refine awp_loopN xs.length (fun k => ⟨mkT 81 [(4, .ptr 1 0 0), (6, .int .i64 (sumTo (spellCost t ⟨sp, false⟩) xs k)), (7, .bool true), (9, .ptr 3 0 0), (55, slX xs), (56, .int .i64 xs.length), (57, .int .i64 k)], [none, some (.cells 96 1 0 (termsC t)), none, some (.cells 42 1 0 [.int .i64 0, .int .i64 0])], []⟩) (.le2 ?_) ?_
  · simp (maxSteps := 4000000) only [go_sem, List.append_eq, List.cons_append, List.nil_append, Nat.reduceAdd, Nat.reduceMul, Nat.reduceSub, Nat.reduceLeDiff, Nat.reduceLT, Int.reduceAdd, Int.reduceToNat, Int.reduceLE, Int.reduceLT, Int.reduceNeg, reduceIte, ruleC, seasonC, slS, slX, termsC, spellC]
    simp [sumTo_zero]
  · intro k hk
    have hsv : k < xs.length → (((xs.getD k (0, 0)).1 : Int) = 0 ∧ ((xs.getD k (0, 0)).2 : Int) = 0 ↔ (false = true ∧ (xs.getD k (0, 0)).2 = sp.length)) := fun h => ⟨fun e => by have := hch.at k h; omega, fun e => by simp at e⟩
    have hbd := sumTo_bd (f := spellCost t ⟨sp, false⟩) (l := xs) 61000 (0, 0) (fun j hj => (cost_bd ht (hch.at j hj).2.1 (hch.at j hj).2.2 hl).2.2) k hk
    have hat := hch.at k
    have hcb : k < xs.length → _ := fun h => cost_bd (s := ⟨sp, false⟩) ht (hat h).2.1 (hat h).2.2 hl
    have hsu : k < xs.length → _ := fun h => sumTo_succ (f := spellCost t ⟨sp, false⟩) (l := xs) (0, 0) h
    simp (maxSteps := 4000000) only [go_sem, List.append_eq, List.cons_append, List.nil_append, Nat.reduceAdd, Nat.reduceMul, Nat.reduceSub, Nat.reduceLeDiff, Nat.reduceLT, Int.reduceAdd, Int.reduceToNat, Int.reduceLE, Int.reduceLT, Int.reduceNeg, reduceIte, ruleC, seasonC, slS, slX, termsC, spellC]
    (repeat' (first
    | (refine awp_seqK ?_)
    | (refine kt ?_)
    | (refine And.intro ?_ ?_)
    | ((first | refine awp_region ?_ | refine awp_draw (by kernel_rfl) (by kernel_rfl) ?_ | refine Imp.le2 ?_ | refine awp_label ?_ | refine awp_skip ?_ | refine awp_exit ?_ | refine awp_cd ?_ | refine awp_ret ?_); simp (maxSteps := 4000000) only [go_sem, List.append_eq, List.cons_append, List.nil_append, Nat.reduceAdd, Nat.reduceMul, Nat.reduceSub, Nat.reduceLeDiff, Nat.reduceLT, Int.reduceAdd, Int.reduceToNat, Int.reduceLE, Int.reduceLT, Int.reduceNeg, reduceIte, ruleC, seasonC, slS, slX, termsC, spellC])
    | (intro _h)
    | (refine awp_block ?_)
    | (refine awp_scope ?_)
    | (refine go_split (fun _h => ?_) (fun _h => ?_) <;> simp (maxSteps := 4000000) only [go_sem, List.append_eq, List.cons_append, List.nil_append, Nat.reduceAdd, Nat.reduceMul, Nat.reduceSub, Nat.reduceLeDiff, Nat.reduceLT, Int.reduceAdd, Int.reduceToNat, Int.reduceLE, Int.reduceLT, Int.reduceNeg, reduceIte, ruleC, seasonC, slS, slX, termsC, spellC])
    | (show heapOK _ _ = true; kernel_rfl)
    | (omega)))
    all_goals (try (have hcb := hcb (by omega)); try (have hsv := hsv (by omega)); try (have hat := hat (by omega)); try (have hsu := hsu (by omega)))
    all_goals (try simp only at hl hle hat hcb hbd)
    all_goals (first
      | omega
      | (rw [hsu]; rw [hsv] at _h; first | (rw [spellCost_pos (s := ⟨sp, false⟩) _h]; omega) | (rw [spellCost_neg (s := ⟨sp, false⟩) _h]; omega))
      | (rw [Bool.false_or, Bool.and_eq_true, decide_eq_true_eq, savedB, decide_eq_true_eq]; simp only; omega)
      | (rw [Bool.false_or, Bool.and_eq_false_iff, decide_eq_false_iff_not, savedB, decide_eq_false_iff_not]; simp only; omega)
      | (have : k = xs.length := by omega
         subst this; rfl)
      | (simp [savedB]; omega)
      | trace "LEFT")
theorem price_c1 (sp : List Int) (t : Terms) (r : Rule) (hl : sp.length ≤ 60) (ht : termsB t = true) (hr : 1 ≤ r.hold ∧ r.hold ≤ 60) :
    CallS Try.prog 94 [.agg (seasonC ⟨sp, true⟩), .agg (termsC t), .agg (ruleC r)] (.tup [.int .i64 (priceS t r ⟨sp, true⟩), .bool (inTimeS t r ⟨sp, true⟩)]) := by
  have hsp := spells_c ⟨sp, true⟩ r (by simp only; omega) hr
  have hch := spells_chain (sp := sp) hr.1
  have hle := spells_le (sp := sp) (r := r)
  obtain ⟨tt1, tt2, tt3, tt4, tt5⟩ := termsB_true ht
  simp only [seasonC, sl, ruleC, slX] at hsp
  simp only [priceS, inTimeS]
  rw [any_last (s := ⟨sp, true⟩) hch]
  generalize spells sp r = xs at *
  have hlast : 0 < xs.length → _ := fun h => hch.at (xs.length - 1) (by omega)
  have hlo : ∀ k, k < xs.length → 0 < xs.length → (xs.getD (xs.length - 1) (0, 0)).2 = sp.length → ((((xs.getD k (0, 0)).1 : Int) = ((xs.getD (xs.length - 1) (0, 0)).1 : Nat) ∧ ((xs.getD k (0, 0)).2 : Int) = ((xs.getD (xs.length - 1) (0, 0)).2 : Nat)) ↔ (true = true ∧ (xs.getD k (0, 0)).2 = sp.length)) := by
    intro k hk h0 hx
    constructor
    · rintro ⟨_, h2⟩; exact ⟨rfl, by omega⟩
    · rintro ⟨_, h2⟩
      have := last_only hch hk h2
      subst this; exact ⟨rfl, rfl⟩
  have hno : ∀ k, k < xs.length → (0 < xs.length → ¬ (xs.getD (xs.length - 1) (0, 0)).2 = sp.length) → ((((xs.getD k (0, 0)).1 : Int) = 0 ∧ ((xs.getD k (0, 0)).2 : Int) = 0) ↔ (true = true ∧ (xs.getD k (0, 0)).2 = sp.length)) := by
    intro k hk hx
    constructor
    · rintro ⟨h1, h2⟩; have := hch.at k hk; omega
    · rintro ⟨_, h2⟩
      have := last_only hch hk h2
      subst this
      exact absurd h2 (hx (by omega))
  (refine callS_of_awp (fun w args => Try.call94 ..) Try.func94 rfl (fun w0 m0 wz => ?_); simp only [Try.ntmps94, Try.results94, initT, junks, ruleC, seasonC, slS, slX, termsC, spellC, sl, List.toList_toArray, List.cons_append, List.nil_append, List.length_cons, List.length_nil, Nat.reduceAdd, Nat.reduceSub])
  by_cases h0 : 0 < xs.length
  · have hl0 := hlast h0
    have e1 : (((xs.length : Int)) - 1).toNat = xs.length - 1 := by omega
    (repeat' (first
    | ((rw [e1]))
    | (refine awp_seqK ?_)
    | (refine kt ?_)
    | (refine And.intro ?_ ?_)
    | ((first | refine awp_region ?_ | refine awp_draw (by kernel_rfl) (by kernel_rfl) ?_ | refine Imp.le2 ?_ | refine awp_label ?_ | refine awp_skip ?_ | refine awp_exit ?_ | refine awp_cd ?_ | refine awp_ret ?_); simp (maxSteps := 4000000) only [go_sem, List.append_eq, List.cons_append, List.nil_append, Nat.reduceAdd, Nat.reduceMul, Nat.reduceSub, Nat.reduceLeDiff, Nat.reduceLT, Int.reduceAdd, Int.reduceToNat, Int.reduceLE, Int.reduceLT, Int.reduceNeg, reduceIte, ruleC, seasonC, slS, slX, termsC, spellC])
    | (intro _h)
    | (refine awp_block ?_)
    | (refine awp_scope ?_)
    | ((first | refine callK_of (hsp) ?_ | refine callK_of (greatest_c _ _ _) ?_); try simp (maxSteps := 4000000) only [go_sem, List.append_eq, List.cons_append, List.nil_append, Nat.reduceAdd, Nat.reduceMul, Nat.reduceSub, Nat.reduceLeDiff, Nat.reduceLT, Int.reduceAdd, Int.reduceToNat, Int.reduceLE, Int.reduceLT, Int.reduceNeg, reduceIte, ruleC, seasonC, slS, slX, termsC, spellC])
    | (refine go_split (fun _h => ?_) (fun _h => ?_) <;> simp (maxSteps := 4000000) only [go_sem, List.append_eq, List.cons_append, List.nil_append, Nat.reduceAdd, Nat.reduceMul, Nat.reduceSub, Nat.reduceLeDiff, Nat.reduceLT, Int.reduceAdd, Int.reduceToNat, Int.reduceLE, Int.reduceLT, Int.reduceNeg, reduceIte, ruleC, seasonC, slS, slX, termsC, spellC])
    | (show heapOK _ _ = true; kernel_rfl)
    | (omega)))
    · refine awp_loopN xs.length (fun k => ⟨mkT 81 [(4, .ptr 1 0 0), (6, .int .i64 (sumTo (spellCost t ⟨sp, true⟩) xs k)), (7, .bool true), (9, .ptr 3 0 0), (55, slX xs), (56, .int .i64 xs.length), (57, .int .i64 k)], [none, some (.cells 96 1 0 (termsC t)), none, some (.cells 42 1 0 [.int .i64 ((xs.getD (xs.length - 1) (0, 0)).1 : Nat), .int .i64 ((xs.getD (xs.length - 1) (0, 0)).2 : Nat)])], []⟩) (.le2 ?_) ?_
      · simp (maxSteps := 4000000) only [go_sem, List.append_eq, List.cons_append, List.nil_append, Nat.reduceAdd, Nat.reduceMul, Nat.reduceSub, Nat.reduceLeDiff, Nat.reduceLT, Int.reduceAdd, Int.reduceToNat, Int.reduceLE, Int.reduceLT, Int.reduceNeg, reduceIte, ruleC, seasonC, slS, slX, termsC, spellC]
        simp [sumTo_zero]
      · intro k hk
        have hsv : k < xs.length → (((xs.getD k (0, 0)).1 : Int) = ((xs.getD (xs.length - 1) (0, 0)).1 : Nat) ∧ ((xs.getD k (0, 0)).2 : Int) = ((xs.getD (xs.length - 1) (0, 0)).2 : Nat) ↔ (true = true ∧ (xs.getD k (0, 0)).2 = sp.length)) := fun h => hlo k h h0 (by omega)
        have hbd := sumTo_bd (f := spellCost t ⟨sp, true⟩) (l := xs) 61000 (0, 0) (fun j hj => (cost_bd ht (hch.at j hj).2.1 (hch.at j hj).2.2 hl).2.2) k hk
        have hat := hch.at k
        have hcb : k < xs.length → _ := fun h => cost_bd (s := ⟨sp, true⟩) ht (hat h).2.1 (hat h).2.2 hl
        have hsu : k < xs.length → _ := fun h => sumTo_succ (f := spellCost t ⟨sp, true⟩) (l := xs) (0, 0) h
        simp (maxSteps := 4000000) only [go_sem, List.append_eq, List.cons_append, List.nil_append, Nat.reduceAdd, Nat.reduceMul, Nat.reduceSub, Nat.reduceLeDiff, Nat.reduceLT, Int.reduceAdd, Int.reduceToNat, Int.reduceLE, Int.reduceLT, Int.reduceNeg, reduceIte, ruleC, seasonC, slS, slX, termsC, spellC]
        (repeat' (first
    | (refine awp_seqK ?_)
    | (refine kt ?_)
    | (refine And.intro ?_ ?_)
    | ((first | refine awp_region ?_ | refine awp_draw (by kernel_rfl) (by kernel_rfl) ?_ | refine Imp.le2 ?_ | refine awp_label ?_ | refine awp_skip ?_ | refine awp_exit ?_ | refine awp_cd ?_ | refine awp_ret ?_); simp (maxSteps := 4000000) only [go_sem, List.append_eq, List.cons_append, List.nil_append, Nat.reduceAdd, Nat.reduceMul, Nat.reduceSub, Nat.reduceLeDiff, Nat.reduceLT, Int.reduceAdd, Int.reduceToNat, Int.reduceLE, Int.reduceLT, Int.reduceNeg, reduceIte, ruleC, seasonC, slS, slX, termsC, spellC])
    | (intro _h)
    | (refine awp_block ?_)
    | (refine awp_scope ?_)
    | (refine go_split (fun _h => ?_) (fun _h => ?_) <;> simp (maxSteps := 4000000) only [go_sem, List.append_eq, List.cons_append, List.nil_append, Nat.reduceAdd, Nat.reduceMul, Nat.reduceSub, Nat.reduceLeDiff, Nat.reduceLT, Int.reduceAdd, Int.reduceToNat, Int.reduceLE, Int.reduceLT, Int.reduceNeg, reduceIte, ruleC, seasonC, slS, slX, termsC, spellC])
    | (show heapOK _ _ = true; kernel_rfl)
    | (omega)))
        all_goals (try (have hcb := hcb (by omega)); try (have hsv := hsv (by omega)); try (have hat := hat (by omega)); try (have hsu := hsu (by omega)))
        all_goals (try simp only at hl hle hat hcb hbd)
        all_goals (first
          | omega
          | (rw [hsu]; rw [hsv] at _h; first | (rw [spellCost_pos (s := ⟨sp, true⟩) _h]) | (rw [spellCost_neg (s := ⟨sp, true⟩) _h]; omega))
          | (rw [Bool.false_or, Bool.and_eq_true, decide_eq_true_eq, savedB, decide_eq_true_eq]; simp only; omega)
          | (rw [Bool.false_or, Bool.and_eq_false_iff, decide_eq_false_iff_not, savedB, decide_eq_false_iff_not]; simp only; omega)
          | (have : k = xs.length := by omega
             subst this; rfl)
          | (simp [savedB]; omega)
          | trace "LEFT")
    · refine awp_loopN xs.length (fun k => ⟨mkT 81 [(4, .ptr 1 0 0), (6, .int .i64 (sumTo (spellCost t ⟨sp, true⟩) xs k)), (7, .bool false), (9, .ptr 3 0 0), (55, slX xs), (56, .int .i64 xs.length), (57, .int .i64 k)], [none, some (.cells 96 1 0 (termsC t)), none, some (.cells 42 1 0 [.int .i64 ((xs.getD (xs.length - 1) (0, 0)).1 : Nat), .int .i64 ((xs.getD (xs.length - 1) (0, 0)).2 : Nat)])], []⟩) (.le2 ?_) ?_
      · simp (maxSteps := 4000000) only [go_sem, List.append_eq, List.cons_append, List.nil_append, Nat.reduceAdd, Nat.reduceMul, Nat.reduceSub, Nat.reduceLeDiff, Nat.reduceLT, Int.reduceAdd, Int.reduceToNat, Int.reduceLE, Int.reduceLT, Int.reduceNeg, reduceIte, ruleC, seasonC, slS, slX, termsC, spellC]
        simp [sumTo_zero]
      · intro k hk
        have hsv : k < xs.length → (((xs.getD k (0, 0)).1 : Int) = ((xs.getD (xs.length - 1) (0, 0)).1 : Nat) ∧ ((xs.getD k (0, 0)).2 : Int) = ((xs.getD (xs.length - 1) (0, 0)).2 : Nat) ↔ (true = true ∧ (xs.getD k (0, 0)).2 = sp.length)) := fun h => hlo k h h0 (by omega)
        have hbd := sumTo_bd (f := spellCost t ⟨sp, true⟩) (l := xs) 61000 (0, 0) (fun j hj => (cost_bd ht (hch.at j hj).2.1 (hch.at j hj).2.2 hl).2.2) k hk
        have hat := hch.at k
        have hcb : k < xs.length → _ := fun h => cost_bd (s := ⟨sp, true⟩) ht (hat h).2.1 (hat h).2.2 hl
        have hsu : k < xs.length → _ := fun h => sumTo_succ (f := spellCost t ⟨sp, true⟩) (l := xs) (0, 0) h
        simp (maxSteps := 4000000) only [go_sem, List.append_eq, List.cons_append, List.nil_append, Nat.reduceAdd, Nat.reduceMul, Nat.reduceSub, Nat.reduceLeDiff, Nat.reduceLT, Int.reduceAdd, Int.reduceToNat, Int.reduceLE, Int.reduceLT, Int.reduceNeg, reduceIte, ruleC, seasonC, slS, slX, termsC, spellC]
        (repeat' (first
    | (refine awp_seqK ?_)
    | (refine kt ?_)
    | (refine And.intro ?_ ?_)
    | ((first | refine awp_region ?_ | refine awp_draw (by kernel_rfl) (by kernel_rfl) ?_ | refine Imp.le2 ?_ | refine awp_label ?_ | refine awp_skip ?_ | refine awp_exit ?_ | refine awp_cd ?_ | refine awp_ret ?_); simp (maxSteps := 4000000) only [go_sem, List.append_eq, List.cons_append, List.nil_append, Nat.reduceAdd, Nat.reduceMul, Nat.reduceSub, Nat.reduceLeDiff, Nat.reduceLT, Int.reduceAdd, Int.reduceToNat, Int.reduceLE, Int.reduceLT, Int.reduceNeg, reduceIte, ruleC, seasonC, slS, slX, termsC, spellC])
    | (intro _h)
    | (refine awp_block ?_)
    | (refine awp_scope ?_)
    | (refine go_split (fun _h => ?_) (fun _h => ?_) <;> simp (maxSteps := 4000000) only [go_sem, List.append_eq, List.cons_append, List.nil_append, Nat.reduceAdd, Nat.reduceMul, Nat.reduceSub, Nat.reduceLeDiff, Nat.reduceLT, Int.reduceAdd, Int.reduceToNat, Int.reduceLE, Int.reduceLT, Int.reduceNeg, reduceIte, ruleC, seasonC, slS, slX, termsC, spellC])
    | (show heapOK _ _ = true; kernel_rfl)
    | (omega)))
        all_goals (try (have hcb := hcb (by omega)); try (have hsv := hsv (by omega)); try (have hat := hat (by omega)); try (have hsu := hsu (by omega)))
        all_goals (try simp only at hl hle hat hcb hbd)
        all_goals (first
          | omega
          | (rw [hsu]; rw [hsv] at _h; first | (rw [spellCost_pos (s := ⟨sp, true⟩) _h]) | (rw [spellCost_neg (s := ⟨sp, true⟩) _h]; omega))
          | (rw [Bool.false_or, Bool.and_eq_true, decide_eq_true_eq, savedB, decide_eq_true_eq]; simp only; omega)
          | (rw [Bool.false_or, Bool.and_eq_false_iff, decide_eq_false_iff_not, savedB, decide_eq_false_iff_not]; simp only; omega)
          | (have : k = xs.length := by omega
             subst this; rfl)
          | (simp [savedB]; omega)
          | trace "LEFT")
    · refine awp_loopN xs.length (fun k => ⟨mkT 81 [(4, .ptr 1 0 0), (6, .int .i64 (sumTo (spellCost t ⟨sp, true⟩) xs k)), (7, .bool false), (9, .ptr 3 0 0), (55, slX xs), (56, .int .i64 xs.length), (57, .int .i64 k)], [none, some (.cells 96 1 0 (termsC t)), none, some (.cells 42 1 0 [.int .i64 0, .int .i64 0])], []⟩) (.le2 ?_) ?_
      · simp (maxSteps := 4000000) only [go_sem, List.append_eq, List.cons_append, List.nil_append, Nat.reduceAdd, Nat.reduceMul, Nat.reduceSub, Nat.reduceLeDiff, Nat.reduceLT, Int.reduceAdd, Int.reduceToNat, Int.reduceLE, Int.reduceLT, Int.reduceNeg, reduceIte, ruleC, seasonC, slS, slX, termsC, spellC]
        simp [sumTo_zero]
      · intro k hk
        have hsv : k < xs.length → (((xs.getD k (0, 0)).1 : Int) = 0 ∧ ((xs.getD k (0, 0)).2 : Int) = 0 ↔ (true = true ∧ (xs.getD k (0, 0)).2 = sp.length)) := fun h => hno k h (fun _ => by omega)
        have hbd := sumTo_bd (f := spellCost t ⟨sp, true⟩) (l := xs) 61000 (0, 0) (fun j hj => (cost_bd ht (hch.at j hj).2.1 (hch.at j hj).2.2 hl).2.2) k hk
        have hat := hch.at k
        have hcb : k < xs.length → _ := fun h => cost_bd (s := ⟨sp, true⟩) ht (hat h).2.1 (hat h).2.2 hl
        have hsu : k < xs.length → _ := fun h => sumTo_succ (f := spellCost t ⟨sp, true⟩) (l := xs) (0, 0) h
        simp (maxSteps := 4000000) only [go_sem, List.append_eq, List.cons_append, List.nil_append, Nat.reduceAdd, Nat.reduceMul, Nat.reduceSub, Nat.reduceLeDiff, Nat.reduceLT, Int.reduceAdd, Int.reduceToNat, Int.reduceLE, Int.reduceLT, Int.reduceNeg, reduceIte, ruleC, seasonC, slS, slX, termsC, spellC]
        (repeat' (first
    | (refine awp_seqK ?_)
    | (refine kt ?_)
    | (refine And.intro ?_ ?_)
    | ((first | refine awp_region ?_ | refine awp_draw (by kernel_rfl) (by kernel_rfl) ?_ | refine Imp.le2 ?_ | refine awp_label ?_ | refine awp_skip ?_ | refine awp_exit ?_ | refine awp_cd ?_ | refine awp_ret ?_); simp (maxSteps := 4000000) only [go_sem, List.append_eq, List.cons_append, List.nil_append, Nat.reduceAdd, Nat.reduceMul, Nat.reduceSub, Nat.reduceLeDiff, Nat.reduceLT, Int.reduceAdd, Int.reduceToNat, Int.reduceLE, Int.reduceLT, Int.reduceNeg, reduceIte, ruleC, seasonC, slS, slX, termsC, spellC])
    | (intro _h)
    | (refine awp_block ?_)
    | (refine awp_scope ?_)
    | (refine go_split (fun _h => ?_) (fun _h => ?_) <;> simp (maxSteps := 4000000) only [go_sem, List.append_eq, List.cons_append, List.nil_append, Nat.reduceAdd, Nat.reduceMul, Nat.reduceSub, Nat.reduceLeDiff, Nat.reduceLT, Int.reduceAdd, Int.reduceToNat, Int.reduceLE, Int.reduceLT, Int.reduceNeg, reduceIte, ruleC, seasonC, slS, slX, termsC, spellC])
    | (show heapOK _ _ = true; kernel_rfl)
    | (omega)))
        all_goals (try (have hcb := hcb (by omega)); try (have hsv := hsv (by omega)); try (have hat := hat (by omega)); try (have hsu := hsu (by omega)))
        all_goals (try simp only at hl hle hat hcb hbd)
        all_goals (first
          | omega
          | (rw [hsu]; rw [hsv] at _h; first | (rw [spellCost_pos (s := ⟨sp, true⟩) _h]) | (rw [spellCost_neg (s := ⟨sp, true⟩) _h]; omega))
          | (rw [Bool.false_or, Bool.and_eq_true, decide_eq_true_eq, savedB, decide_eq_true_eq]; simp only; omega)
          | (rw [Bool.false_or, Bool.and_eq_false_iff, decide_eq_false_iff_not, savedB, decide_eq_false_iff_not]; simp only; omega)
          | (have : k = xs.length := by omega
             subst this; rfl)
          | (simp [savedB]; omega)
          | trace "LEFT")
  · (repeat' (first
    | (refine awp_seqK ?_)
    | (refine kt ?_)
    | (refine And.intro ?_ ?_)
    | ((first | refine awp_region ?_ | refine awp_draw (by kernel_rfl) (by kernel_rfl) ?_ | refine Imp.le2 ?_ | refine awp_label ?_ | refine awp_skip ?_ | refine awp_exit ?_ | refine awp_cd ?_ | refine awp_ret ?_); simp (maxSteps := 4000000) only [go_sem, List.append_eq, List.cons_append, List.nil_append, Nat.reduceAdd, Nat.reduceMul, Nat.reduceSub, Nat.reduceLeDiff, Nat.reduceLT, Int.reduceAdd, Int.reduceToNat, Int.reduceLE, Int.reduceLT, Int.reduceNeg, reduceIte, ruleC, seasonC, slS, slX, termsC, spellC])
    | (intro _h)
    | (refine awp_block ?_)
    | (refine awp_scope ?_)
    | ((first | refine callK_of (hsp) ?_ | refine callK_of (greatest_c _ _ _) ?_); try simp (maxSteps := 4000000) only [go_sem, List.append_eq, List.cons_append, List.nil_append, Nat.reduceAdd, Nat.reduceMul, Nat.reduceSub, Nat.reduceLeDiff, Nat.reduceLT, Int.reduceAdd, Int.reduceToNat, Int.reduceLE, Int.reduceLT, Int.reduceNeg, reduceIte, ruleC, seasonC, slS, slX, termsC, spellC])
    | (refine go_split (fun _h => ?_) (fun _h => ?_) <;> simp (maxSteps := 4000000) only [go_sem, List.append_eq, List.cons_append, List.nil_append, Nat.reduceAdd, Nat.reduceMul, Nat.reduceSub, Nat.reduceLeDiff, Nat.reduceLT, Int.reduceAdd, Int.reduceToNat, Int.reduceLE, Int.reduceLT, Int.reduceNeg, reduceIte, ruleC, seasonC, slS, slX, termsC, spellC])
    | (show heapOK _ _ = true; kernel_rfl)
    | (omega)))
    refine awp_loopN xs.length (fun k => ⟨mkT 81 [(4, .ptr 1 0 0), (6, .int .i64 (sumTo (spellCost t ⟨sp, true⟩) xs k)), (7, .bool false), (9, .ptr 3 0 0), (55, slX xs), (56, .int .i64 xs.length), (57, .int .i64 k)], [none, some (.cells 96 1 0 (termsC t)), none, some (.cells 42 1 0 [.int .i64 0, .int .i64 0])], []⟩) (.le2 ?_) ?_
    · simp (maxSteps := 4000000) only [go_sem, List.append_eq, List.cons_append, List.nil_append, Nat.reduceAdd, Nat.reduceMul, Nat.reduceSub, Nat.reduceLeDiff, Nat.reduceLT, Int.reduceAdd, Int.reduceToNat, Int.reduceLE, Int.reduceLT, Int.reduceNeg, reduceIte, ruleC, seasonC, slS, slX, termsC, spellC]
      simp [sumTo_zero]
    · intro k hk
      have hsv : k < xs.length → (((xs.getD k (0, 0)).1 : Int) = 0 ∧ ((xs.getD k (0, 0)).2 : Int) = 0 ↔ (true = true ∧ (xs.getD k (0, 0)).2 = sp.length)) := fun h => absurd h (by omega)
      have hbd := sumTo_bd (f := spellCost t ⟨sp, true⟩) (l := xs) 61000 (0, 0) (fun j hj => (cost_bd ht (hch.at j hj).2.1 (hch.at j hj).2.2 hl).2.2) k hk
      have hat := hch.at k
      have hcb : k < xs.length → _ := fun h => cost_bd (s := ⟨sp, true⟩) ht (hat h).2.1 (hat h).2.2 hl
      have hsu : k < xs.length → _ := fun h => sumTo_succ (f := spellCost t ⟨sp, true⟩) (l := xs) (0, 0) h
      simp (maxSteps := 4000000) only [go_sem, List.append_eq, List.cons_append, List.nil_append, Nat.reduceAdd, Nat.reduceMul, Nat.reduceSub, Nat.reduceLeDiff, Nat.reduceLT, Int.reduceAdd, Int.reduceToNat, Int.reduceLE, Int.reduceLT, Int.reduceNeg, reduceIte, ruleC, seasonC, slS, slX, termsC, spellC]
      (repeat' (first
    | (refine awp_seqK ?_)
    | (refine kt ?_)
    | (refine And.intro ?_ ?_)
    | ((first | refine awp_region ?_ | refine awp_draw (by kernel_rfl) (by kernel_rfl) ?_ | refine Imp.le2 ?_ | refine awp_label ?_ | refine awp_skip ?_ | refine awp_exit ?_ | refine awp_cd ?_ | refine awp_ret ?_); simp (maxSteps := 4000000) only [go_sem, List.append_eq, List.cons_append, List.nil_append, Nat.reduceAdd, Nat.reduceMul, Nat.reduceSub, Nat.reduceLeDiff, Nat.reduceLT, Int.reduceAdd, Int.reduceToNat, Int.reduceLE, Int.reduceLT, Int.reduceNeg, reduceIte, ruleC, seasonC, slS, slX, termsC, spellC])
    | (intro _h)
    | (refine awp_block ?_)
    | (refine awp_scope ?_)
    | (refine go_split (fun _h => ?_) (fun _h => ?_) <;> simp (maxSteps := 4000000) only [go_sem, List.append_eq, List.cons_append, List.nil_append, Nat.reduceAdd, Nat.reduceMul, Nat.reduceSub, Nat.reduceLeDiff, Nat.reduceLT, Int.reduceAdd, Int.reduceToNat, Int.reduceLE, Int.reduceLT, Int.reduceNeg, reduceIte, ruleC, seasonC, slS, slX, termsC, spellC])
    | (show heapOK _ _ = true; kernel_rfl)
    | (omega)))
      all_goals (try (have hcb := hcb (by omega)); try (have hsv := hsv (by omega)); try (have hat := hat (by omega)); try (have hsu := hsu (by omega)))
      all_goals (try simp only at hl hle hat hcb hbd)
      all_goals (first
        | omega
        | (rw [hsu]; rw [hsv] at _h; first | (rw [spellCost_pos (s := ⟨sp, true⟩) _h]) | (rw [spellCost_neg (s := ⟨sp, true⟩) _h]; omega))
        | (rw [Bool.false_or, Bool.and_eq_true, decide_eq_true_eq, savedB, decide_eq_true_eq]; simp only; omega)
        | (rw [Bool.false_or, Bool.and_eq_false_iff, decide_eq_false_iff_not, savedB, decide_eq_false_iff_not]; simp only; omega)
        | (have : k = xs.length := by omega
           subst this; rfl)
        | (simp [savedB]; omega)
        | trace "LEFT")
theorem price_c (s : Season) (t : Terms) (r : Rule) (hl : s.speeds.length ≤ 60) (ht : termsB t = true) (hr : 1 ≤ r.hold ∧ r.hold ≤ 60) :
    CallS Try.prog 94 [.agg (seasonC s), .agg (termsC t), .agg (ruleC r)] (.tup [.int .i64 (priceS t r s), .bool (inTimeS t r s)]) := by
  obtain ⟨sp, fell⟩ := s
  cases fell
  · exact price_c0 sp t r hl ht hr
  · exact price_c1 sp t r hl ht hr
end Go.Am

/- What the arguments of the alarm laws can be read as: seasons, terms, small numbers. -/
namespace Go.Am
open Go.RowKit Go.Proofs
section
variable {H : Type} {en : TypeId × Value → H} {P : Program} {w : World} {base : Nat} {sp : Nat → Bool} {held : Bool}
theorem arg_slice {rc : Reach} {b0 : Nat} {t e : TypeId} {v : Value} {d : DataW H} {p : List MemPlace} {α : Type} {x : α → AV} {ok : α → Prop} (hu : P.underlying t = some (.slice e)) (r : Reads P t 1 (fun a => [x a]) ok)
    (hv : Value.okWide P w rc b0 t v) (h : DataW.Trod en P w base sp held t v d p) : ∃ a, ok a ∧ PRep (fun c => c < w.heap.size) w (x a) v := by
  refine arg_one r ?_ h
  cases v
  case agg cs => exact absurd hv (by simp [Value.okWide, Cell.okWide, Cell.ok, hu])
  all_goals rfl
theorem arg_int {rc : Reach} {b0 : Nat} {t : TypeId} {k : IntKind} {v : Value} {d : DataW H} {p : List MemPlace} {α : Type} {x : α → AV} {ok : α → Prop} (hu : P.underlying t = some (.int k)) (r : Reads P t 1 (fun a => [x a]) ok)
    (hv : Value.okWide P w rc b0 t v) (h : DataW.Trod en P w base sp held t v d p) : ∃ a, ok a ∧ PRep (fun c => c < w.heap.size) w (x a) v := by
  refine arg_one r ?_ h
  cases v
  case agg cs => exact absurd hv (by simp [Value.okWide, Cell.okWide, Cell.ok, hu])
  all_goals rfl
end
theorem rd37 : Reads Try.prog 37 1 (fun l : List Season => [slS l]) okS :=
  (reads_slice Try.underlying37 (by kernel_rfl) (by omega) rd24).conv id _ _ (fun _ => rfl) (fun l => rfl) (fun l h => ⟨h.1, fun i hi => by
    rw [show (id l).getD i default = l[i] by simp [List.getD_eq_getElem?_getD, show i < l.length from hi]]
    exact h.2 _ (List.getElem_mem hi)⟩)
theorem rd90 : Reads Try.prog 90 5 termsC (fun _ => True) :=
  (reads_struct Try.underlying90 (by kernel_rfl) (readsF_cons rfl rd3 (readsF_cons rfl rd3 (readsF_cons rfl rd3 (readsF_cons rfl rd3 (readsF_cons rfl rd3 readsF_nil)))))).conv (fun p => ⟨p.1, p.2.1, p.2.2.1, p.2.2.2.1, p.2.2.2.2.1⟩) _ _ (fun _ => rfl) (fun _ => rfl) (fun _ _ => trivial)
theorem rd48 : Reads Try.prog 48 1 (fun n : Int => [.int .u16 n]) (okI .u16) := reads_int Try.underlying48 (by kernel_rfl)
theorem okI_u16 {n : Int} (h : okI .u16 n) : 0 ≤ n ∧ n ≤ 65535 := by
  unfold okI at h
  simpa [Lit.wf, IntKind.has, IntKind.min, IntKind.max, IntKind.signed, IntKind.bits] using h
end Go.Am

/- Contracts of the alarm functions, part A: small ones. -/
namespace Go.Am
open Go.RowKit Go.Proofs
attribute [local irreducible] AWP CallS Kt goK CallK stepK evOps
set_option maxRecDepth 4000
set_option linter.unusedSimpArgs false
set_option linter.unusedVariables false

set_option maxHeartbeats 400000
/-- A post of the program. -/
structure Post where
  errs : List Int
  gain : Int
  drop : Int
  fall : Int
  out : Int
  ahead : Int
def postC (p : Post) : List AV := [sl p.errs, .int .i64 p.gain, .int .i64 p.drop, .int .i64 p.fall, .int .i64 p.out, .int .i64 p.ahead]

def agLo (errs row : List Int) (failed : Int) : Nat → Int
  | 0 => 0
  | i + 1 => if (i : Int) = failed then agLo errs row failed i else max (agLo errs row failed i) (row.getD i 0 - errs.getD i 0)
def agHi (errs row : List Int) (failed : Int) : Nat → Int
  | 0 => 1000
  | i + 1 => if (i : Int) = failed then agHi errs row failed i else min (agHi errs row failed i) (row.getD i 0 + errs.getD i 0)
def agreedEnds (errs row : List Int) (failed : Int) : Int × Int :=
  if agHi errs row failed row.length < agLo errs row failed row.length then (1, 0) else (agLo errs row failed row.length, agHi errs row failed row.length)

theorem agreed_c (p : Post) (row : List Int) (failed : Int) (hl : row.length = p.errs.length) (hb : row.length ≤ 1000) (h1 : ∀ i, i < row.length → -1000 ≤ row.getD i 0 ∧ row.getD i 0 ≤ 2000) (h2 : ∀ i, i < p.errs.length → 0 ≤ p.errs.getD i 0 ∧ p.errs.getD i 0 ≤ 1000) :
    CallS Try.prog 68 [.agg (postC p), sl row, .int .i64 failed] (.agg [.int .i64 (agreedEnds p.errs row failed).1, .int .i64 (agreedEnds p.errs row failed).2]) := by
  (refine callS_of_awp (fun w args => Try.call68 ..) Try.func68 rfl (fun w0 m0 wz => ?_); simp only [Try.ntmps68, Try.results68, initT, junks, sl, List.toList_toArray, List.cons_append, List.nil_append, List.length_cons, List.length_nil, Nat.reduceAdd, Nat.reduceSub])
  simp only [postC]
  (repeat' (first
    | (refine awp_seqK ?_)
    | (refine kt ?_)
    | (refine And.intro ?_ ?_)
    | ((first | refine awp_region ?_ | refine awp_draw (by kernel_rfl) (by kernel_rfl) ?_ | refine Imp.le2 ?_ | refine awp_label ?_ | refine awp_skip ?_ | refine awp_exit ?_ | refine awp_cd ?_ | refine awp_ret ?_); simp (maxSteps := 4000000) only [go_sem, List.append_eq, List.cons_append, List.nil_append, Nat.reduceAdd, Nat.reduceMul, Nat.reduceSub, Nat.reduceLeDiff, Nat.reduceLT, Int.reduceAdd, Int.reduceToNat, Int.reduceLE, Int.reduceLT, Int.reduceNeg, reduceIte])
    | (intro _h)
    | (refine awp_block ?_)
    | (refine awp_scope ?_)
    | (refine go_split (fun _h => ?_) (fun _h => ?_) <;> simp (maxSteps := 4000000) only [go_sem, List.append_eq, List.cons_append, List.nil_append, Nat.reduceAdd, Nat.reduceMul, Nat.reduceSub, Nat.reduceLeDiff, Nat.reduceLT, Int.reduceAdd, Int.reduceToNat, Int.reduceLE, Int.reduceLT, Int.reduceNeg, reduceIte])
    | (show heapOK _ _ = true; kernel_rfl)
    | (omega)))
  refine awp_loopN row.length (fun i => ⟨mkT 49 [(1, sl row), (2, .int .i64 failed), (3, .ptr 0 0 0), (6, .ptr 1 0 0), (7, .int .i64 (agLo p.errs row failed i)), (8, .int .i64 (agHi p.errs row failed i)), (11, sl row), (12, .int .i64 row.length), (13, .int .i64 i)], [some (.cells 51 1 0 (postC p)), some (.cells 122 1 0 [.int .i64 0, .int .i64 0])], []⟩) (.le2 ?_) ?_
  · simp only [postC]; simp (maxSteps := 4000000) only [go_sem, List.append_eq, List.cons_append, List.nil_append, Nat.reduceAdd, Nat.reduceMul, Nat.reduceSub, Nat.reduceLeDiff, Nat.reduceLT, Int.reduceAdd, Int.reduceToNat, Int.reduceLE, Int.reduceLT, Int.reduceNeg, reduceIte]
    exact ⟨rfl, rfl⟩
  · intro i hi
    have hr := h1 i
    have he := h2 i
    simp only [postC]; simp (maxSteps := 4000000) only [go_sem, List.append_eq, List.cons_append, List.nil_append, Nat.reduceAdd, Nat.reduceMul, Nat.reduceSub, Nat.reduceLeDiff, Nat.reduceLT, Int.reduceAdd, Int.reduceToNat, Int.reduceLE, Int.reduceLT, Int.reduceNeg, reduceIte]
    (repeat' (first
    | (refine awp_seqK ?_)
    | (refine kt ?_)
    | (refine And.intro ?_ ?_)
    | ((first | refine awp_region ?_ | refine awp_draw (by kernel_rfl) (by kernel_rfl) ?_ | refine Imp.le2 ?_ | refine awp_label ?_ | refine awp_skip ?_ | refine awp_exit ?_ | refine awp_cd ?_ | refine awp_ret ?_); simp (maxSteps := 4000000) only [go_sem, List.append_eq, List.cons_append, List.nil_append, Nat.reduceAdd, Nat.reduceMul, Nat.reduceSub, Nat.reduceLeDiff, Nat.reduceLT, Int.reduceAdd, Int.reduceToNat, Int.reduceLE, Int.reduceLT, Int.reduceNeg, reduceIte])
    | (intro _h)
    | (refine awp_block ?_)
    | (refine awp_scope ?_)
    | ((first | refine callK_of (greatest_c _ _ _) ?_ | refine callK_of (least_c _ _ _) ?_ | refine callK_of (nothing_c) ?_); try simp (maxSteps := 4000000) only [go_sem, List.append_eq, List.cons_append, List.nil_append, Nat.reduceAdd, Nat.reduceMul, Nat.reduceSub, Nat.reduceLeDiff, Nat.reduceLT, Int.reduceAdd, Int.reduceToNat, Int.reduceLE, Int.reduceLT, Int.reduceNeg, reduceIte])
    | (refine go_split (fun _h => ?_) (fun _h => ?_) <;> simp (maxSteps := 4000000) only [go_sem, List.append_eq, List.cons_append, List.nil_append, Nat.reduceAdd, Nat.reduceMul, Nat.reduceSub, Nat.reduceLeDiff, Nat.reduceLT, Int.reduceAdd, Int.reduceToNat, Int.reduceLE, Int.reduceLT, Int.reduceNeg, reduceIte])
    | (show heapOK _ _ = true; kernel_rfl)
    | (omega)))
    all_goals first
      | (simp only [agLo, agHi]; simp only [*, if_true, if_false]; done)
      | (have e : i = row.length := by omega
         subst e; clear hl h1 h2
         simp only [agreedEnds, *, if_true, if_false])
end Go.Am

/- Plain words for the posts at work: what may be, by the gauge that failed. No program is in sight, but for maps of numbers to pairs. -/
namespace Go.Am
/-- The entries of a map, in order of their keys: k keys from f on. -/
def canonF (g : Int → Option (Int × Int)) : Nat → Int → List (Int × Int × Int)
  | 0, _ => []
  | k + 1, f => match g f with
    | some x => (f, x) :: canonF g k (f + 1)
    | none => canonF g k (f + 1)
def updI (g : Int → Option (Int × Int)) (j : Int) (v : Option (Int × Int)) : Int → Option (Int × Int) := fun i => if i = j then v else g i
theorem canonF_congr {g g' : Int → Option (Int × Int)} : ∀ (k : Nat) (f : Int), (∀ j, f ≤ j → j < f + k → g j = g' j) → canonF g k f = canonF g' k f
  | 0, _, _ => rfl
  | k + 1, f, h => by
    simp only [canonF]
    rw [h f (by omega) (by omega), canonF_congr k (f + 1) (fun j h1 h2 => h j (by omega) (by omega))]
theorem canonF_get {g : Int → Option (Int × Int)} {j : Int} : ∀ (k : Nat) (f : Int), f ≤ j → j < f + k → mpGet (canonF g k f) j = g j
  | 0, f, h1, h2 => by omega
  | k + 1, f, h1, h2 => by
    have step : ∀ f', f' = f + 1 → f ≠ j → mpGet (canonF g k f') j = g j := fun f' e hne => by subst e; exact canonF_get k (f + 1) (by omega) (by omega)
    have miss : ∀ (k : Nat) (f : Int), j < f → mpGet (canonF g k f) j = none := by
      intro k
      induction k with
      | zero => intro f h; rfl
      | succ k ih =>
        intro f h
        simp only [canonF]
        cases g f with
        | none => exact ih _ (by omega)
        | some x => simp only [mpGet]; rw [if_neg (by omega)]; exact ih _ (by omega)
    simp only [canonF]
    by_cases e : f = j
    · subst e
      cases hg : g f with
      | none => simp only; exact miss k _ (by omega)
      | some x => simp only [mpGet, if_true]
    · cases hg : g f with
      | none => exact step _ rfl e
      | some x => simp only [mpGet]; rw [if_neg e]; exact step _ rfl e
theorem canonF_put {g : Int → Option (Int × Int)} {j : Int} {v : Int × Int} : ∀ (k : Nat) (f : Int), f ≤ j → j < f + k → ((g j).isSome = true ∨ ∀ i, j < i → i < f + k → g i = none) → mpPut (canonF g k f) j v = canonF (updI g j (some v)) k f
  | 0, f, h1, h2, _ => by omega
  | k + 1, f, h1, h2, h3 => by
    simp only [canonF]
    by_cases e : f = j
    · subst e
      have e1 : updI g f (some v) f = some v := by simp [updI]
      have e2 : canonF (updI g f (some v)) k (f + 1) = canonF g k (f + 1) := canonF_congr k _ (fun i h4 _ => by simp [updI, show i ≠ f by omega])
      rw [e1, e2]
      cases hg : g f with
      | some x => simp only [mpPut, if_true]
      | none =>
        have h4 : ∀ i, f < i → i < f + (k + 1 : Nat) → g i = none := h3.resolve_left (by simp [hg])
        have e3 : canonF g k (f + 1) = [] := by
          have : ∀ (k : Nat) (f : Int), (∀ i, f ≤ i → i < f + k → g i = none) → canonF g k f = [] := by
            intro k
            induction k with
            | zero => intro f h; rfl
            | succ k ih => intro f h; simp only [canonF]; rw [h f (by omega) (by omega)]; exact ih _ (fun i h5 h6 => h i (by omega) (by omega))
          exact this k _ (fun i h5 h6 => h4 i (by omega) (by omega))
        simp only [e3, mpPut]
    · have e1 : updI g j (some v) f = g f := by simp [updI, e]
      have ih := canonF_put (g := g) (v := v) k (f + 1) (j := j) (by omega) (by omega) (h3.imp id (fun h i h4 h5 => h i h4 (by omega)))
      rw [e1]
      cases hg : g f with
      | none => exact ih
      | some x => simp only [mpPut]; rw [if_neg e, ih]
theorem canonF_del {g : Int → Option (Int × Int)} {j : Int} : ∀ (k : Nat) (f : Int), mpDel (canonF g k f) j = canonF (updI g j none) k f
  | 0, f => rfl
  | k + 1, f => by
    simp only [canonF]
    by_cases e : f = j
    · subst e
      have e1 : updI g f none f = none := by simp [updI]
      have e2 : canonF (updI g f none) k (f + 1) = canonF g k (f + 1) := canonF_congr k _ (fun i h4 _ => by simp [updI, show i ≠ f by omega])
      rw [e1, e2]
      cases hg : g f with
      | some x => simp only [mpDel, if_true]
      | none =>
        simp only
        have := canonF_del (g := g) (j := f) k (f + 1)
        rw [this, e2]
    · have e1 : updI g j none f = g f := by simp [updI, e]
      have ih := canonF_del (g := g) (j := j) k (f + 1)
      rw [e1]
      cases hg : g f with
      | none => exact ih
      | some x => simp only [mpDel]; rw [if_neg e, ih]
/-- The map of n gauges. -/
def canon (n : Nat) (g : Int → Option (Int × Int)) : List (Int × Int × Int) := canonF g (n + 1) (-1)
theorem canon_congr {n : Nat} {g g' : Int → Option (Int × Int)} (h : ∀ j : Int, -1 ≤ j → j < n → g j = g' j) : canon n g = canon n g' := canonF_congr _ _ (fun j h1 h2 => h j h1 (by omega))
theorem canon_get {n : Nat} {g : Int → Option (Int × Int)} {j : Int} (h1 : -1 ≤ j) (h2 : j < n) : mpGet (canon n g) j = g j := canonF_get _ _ h1 (by omega)
theorem canon_put {n : Nat} {g : Int → Option (Int × Int)} {j : Int} {v : Int × Int} (h1 : -1 ≤ j) (h2 : j < n) (h3 : (g j).isSome = true ∨ ∀ i, j < i → i < n → g i = none) : mpPut (canon n g) j v = canon n (updI g j (some v)) :=
  canonF_put _ _ h1 (by omega) (h3.imp id (fun h i h4 h5 => h i h4 (by omega)))
theorem canon_del {n : Nat} {g : Int → Option (Int × Int)} {j : Int} : mpDel (canon n g) j = canon n (updI g j none) := canonF_del _ _
theorem canon_none {n : Nat} {g : Int → Option (Int × Int)} (h : ∀ j : Int, -1 ≤ j → j < n → g j = none) : canon n g = [] := by
  have : ∀ (k : Nat) (f : Int), (∀ i, f ≤ i → i < f + k → g i = none) → canonF g k f = [] := by
    intro k
    induction k with
    | zero => intro f h; rfl
    | succ k ih => intro f h; simp only [canonF]; rw [h f (by omega) (by omega)]; exact ih _ (fun i h5 h6 => h i (by omega) (by omega))
  exact this _ _ (fun i h1 h2 => h i h1 (by omega))
theorem canon_fill {n : Nat} {g : Int → Option (Int × Int)} {j : Int} {v : Int × Int} (h1 : -1 ≤ j) (h2 : j < n) : mpPut (canon n fun f => if f < j then g f else none) j v = canon n fun f => if f < j + 1 then (if f = j then some v else g f) else none := by
  rw [canon_put h1 h2 (.inr fun i h _ => if_neg (by omega))]
  refine canon_congr fun i _ _ => ?_
  simp only [updI]
  by_cases e : i = j
  · subst e; simp; omega
  · rw [if_neg e, if_neg e]
    by_cases h : i < j
    · rw [if_pos h, if_pos (by omega)]
    · rw [if_neg h, if_neg (by omega)]
section
variable {σ : Nat → Nat} {p : Nat → Prop} {q : Nat → Bool} {m : List (Int × Int × Int)}
theorem rb_mp : renB σ (.map (mpC m)) = .map (mpC m) := by
  simp only [renB, mpC, List.map_map]
  congr 1
theorem rf_mp : refsB p (.map (mpC m)) = True := by
  rw [eq_iff_iff, iff_true]
  simp only [refsB, mpC, List.mem_map]
  rintro _ ⟨e, _, rfl⟩
  simp [refs, refsL]
theorem bl_mp : blkLive q (.map (mpC m)) = true := by
  simp only [blkLive, mpC, List.all_map, List.all_eq_true]
  intro e _; rfl
theorem rb_mpn : (ABlk.map (mpC m) = .map (mpC m)) = True := by simp
end
attribute [go_sem] rb_mp rf_mp bl_mp
end Go.Am

/- Contracts of the alarm functions: a post at work. -/
namespace Go.Am
open Go.RowKit Go.Proofs
attribute [local irreducible] AWP CallS Kt goK CallK stepK evOps SemF SemY
set_option maxRecDepth 4000
set_option linter.unusedSimpArgs false
set_option linter.unusedVariables false
set_option maxHeartbeats 1600000

def watchC (p : Post) (mb : Nat) : List AV := postC p ++ [.map mb]

theorem begin_c (p : Post) (hb : p.errs.length ≤ 1000) : SemF Try.prog 72 [.agg (postC p)] [] (.ptr 2 0 0) [none, some (.map (mpC (canon p.errs.length fun _ => some (0, 1000)))), some (.cells 142 1 0 (watchC p 1))] := by
  (refine semF_of_awp (ys := [.ptr 2 0 0]) (fun w args => Try.call72 ..) Try.func72 rfl (fun w0 m0 wz => ?_); simp only [Try.ntmps72, Try.results72, initT, junks, postC, watchC, sl, List.toList_toArray, List.cons_append, List.nil_append, List.length_cons, List.length_nil, Nat.reduceAdd, Nat.reduceSub])
  (repeat' (first
    | (refine awp_seqK ?_)
    | (refine kt ?_)
    | (refine And.intro ?_ ?_)
    | ((first | refine awp_region ?_ | refine awp_draw (by kernel_rfl) (by kernel_rfl) ?_ | refine Imp.le2 ?_ | refine awp_label ?_ | refine awp_skip ?_ | refine awp_exit ?_ | refine awp_cd ?_ | refine awp_ret ?_); simp (maxSteps := 4000000) only [go_sem, List.append_eq, List.cons_append, List.nil_append, Nat.reduceAdd, Nat.reduceMul, Nat.reduceSub, Nat.reduceLeDiff, Nat.reduceLT, Int.reduceAdd, Int.reduceToNat, Int.reduceLE, Int.reduceLT, Int.reduceNeg, reduceIte, postC, watchC])
    | (intro _h)
    | (refine awp_block ?_)
    | (refine awp_scope ?_)
    | (refine go_split (fun _h => ?_) (fun _h => ?_) <;> simp (maxSteps := 4000000) only [go_sem, List.append_eq, List.cons_append, List.nil_append, Nat.reduceAdd, Nat.reduceMul, Nat.reduceSub, Nat.reduceLeDiff, Nat.reduceLT, Int.reduceAdd, Int.reduceToNat, Int.reduceLE, Int.reduceLT, Int.reduceNeg, reduceIte, postC, watchC])
    | (show heapOK _ _ = true; kernel_rfl)
    | (omega)))
  refine awp_loopN (p.errs.length + 1) (fun i => ⟨mkT 23 [(1, .ptr 0 0 0), (3, .ptr 2 0 0), (4, .int .i64 ((i : Int) - 1))], [some (.cells 51 1 0 (postC p)), some (.map (mpC (canon p.errs.length fun f => if f < (i : Int) - 1 then some (0, 1000) else none))), some (.cells 142 1 0 (watchC p 1))], []⟩) (.le2 ?_) ?_
  · simp only [postC, watchC]; simp (maxSteps := 4000000) only [go_sem, List.append_eq, List.cons_append, List.nil_append, Nat.reduceAdd, Nat.reduceMul, Nat.reduceSub, Nat.reduceLeDiff, Nat.reduceLT, Int.reduceAdd, Int.reduceToNat, Int.reduceLE, Int.reduceLT, Int.reduceNeg, reduceIte, postC, watchC]
    rw [canon_none]
    · exact ⟨rfl, rfl⟩
    · intro j h1 h2; rw [if_neg (by omega)]
  · intro i hi
    simp only [postC, watchC]; simp (maxSteps := 4000000) only [go_sem, List.append_eq, List.cons_append, List.nil_append, Nat.reduceAdd, Nat.reduceMul, Nat.reduceSub, Nat.reduceLeDiff, Nat.reduceLT, Int.reduceAdd, Int.reduceToNat, Int.reduceLE, Int.reduceLT, Int.reduceNeg, reduceIte, postC, watchC]
    (repeat' (first
    | (refine awp_seqK ?_)
    | (refine kt ?_)
    | (refine And.intro ?_ ?_)
    | ((first | refine awp_region ?_ | refine awp_draw (by kernel_rfl) (by kernel_rfl) ?_ | refine Imp.le2 ?_ | refine awp_label ?_ | refine awp_skip ?_ | refine awp_exit ?_ | refine awp_cd ?_ | refine awp_ret ?_); simp (maxSteps := 4000000) only [go_sem, List.append_eq, List.cons_append, List.nil_append, Nat.reduceAdd, Nat.reduceMul, Nat.reduceSub, Nat.reduceLeDiff, Nat.reduceLT, Int.reduceAdd, Int.reduceToNat, Int.reduceLE, Int.reduceLT, Int.reduceNeg, reduceIte, postC, watchC])
    | (intro _h)
    | (refine awp_block ?_)
    | (refine awp_scope ?_)
    | (refine go_split (fun _h => ?_) (fun _h => ?_) <;> simp (maxSteps := 4000000) only [go_sem, List.append_eq, List.cons_append, List.nil_append, Nat.reduceAdd, Nat.reduceMul, Nat.reduceSub, Nat.reduceLeDiff, Nat.reduceLT, Int.reduceAdd, Int.reduceToNat, Int.reduceLE, Int.reduceLT, Int.reduceNeg, reduceIte, postC, watchC])
    | (show heapOK _ _ = true; kernel_rfl)
    | (omega)))
    · rw [canon_put (by omega) (by omega) (.inr fun j h1 _ => if_neg (by omega))]
      congr 1
      refine canon_congr fun j h1 h2 => ?_
      simp only [updI]
      by_cases e : j = (i : Int) - 1
      · rw [if_pos e, if_pos (by omega)]
      · rw [if_neg e]
        by_cases h : j < (i : Int) - 1
        · rw [if_pos h, if_pos (by omega)]
        · rw [if_neg h, if_neg (by omega)]
    · congr 1
      exact canon_congr fun j h1 h2 => if_pos (by omega)
theorem failing_c (p : Post) (m : List (Int × Int × Int)) : SemF Try.prog 64 [.ptr 0 0 0] [some (.cells 142 1 0 (watchC p 1)), some (.map (mpC m))] (.fn (.func 87) [] [.ptr 2 0 0]) [some (.cells 142 1 0 (watchC p 1)), some (.map (mpC m)), some (.cells 115 1 0 [.ptr 0 0 0])] := by
  (refine semF_of_awp (ys := [.fn (.func 87) [] [.ptr 2 0 0]]) (fun w args => Try.call64 ..) Try.func64 rfl (fun w0 m0 wz => ?_); simp only [Try.ntmps64, Try.results64, initT, junks, postC, watchC, sl, List.toList_toArray, List.cons_append, List.nil_append, List.length_cons, List.length_nil, Nat.reduceAdd, Nat.reduceSub])
  (repeat' (first
    | (refine awp_seqK ?_)
    | (refine kt ?_)
    | (refine And.intro ?_ ?_)
    | ((first | refine awp_region ?_ | refine awp_draw (by kernel_rfl) (by kernel_rfl) ?_ | refine Imp.le2 ?_ | refine awp_label ?_ | refine awp_skip ?_ | refine awp_exit ?_ | refine awp_cd ?_ | refine awp_ret ?_); simp (maxSteps := 4000000) only [go_sem, List.append_eq, List.cons_append, List.nil_append, Nat.reduceAdd, Nat.reduceMul, Nat.reduceSub, Nat.reduceLeDiff, Nat.reduceLT, Int.reduceAdd, Int.reduceToNat, Int.reduceLE, Int.reduceLT, Int.reduceNeg, reduceIte, postC, watchC])
    | (intro _h)
    | (refine awp_block ?_)
    | (refine awp_scope ?_)
    | (refine go_split (fun _h => ?_) (fun _h => ?_) <;> simp (maxSteps := 4000000) only [go_sem, List.append_eq, List.cons_append, List.nil_append, Nat.reduceAdd, Nat.reduceMul, Nat.reduceSub, Nat.reduceLeDiff, Nat.reduceLT, Int.reduceAdd, Int.reduceToNat, Int.reduceLE, Int.reduceLT, Int.reduceNeg, reduceIte, postC, watchC])
    | (show heapOK _ _ = true; kernel_rfl)
    | (omega)))

def stepX (p : Post) (row : List Int) (first : Bool) (f : Int) (x : Int × Int) : Option (Int × Int) :=
  if agreedEnds p.errs row f = (1, 0) ∨ min (if first = true then x.2 else x.2 + p.gain) (agreedEnds p.errs row f).2 < max (if first = true then x.1 else x.1 - p.drop) (agreedEnds p.errs row f).1 then none
  else some (max (if first = true then x.1 else x.1 - p.drop) (agreedEnds p.errs row f).1, min (if first = true then x.2 else x.2 + p.gain) (agreedEnds p.errs row f).2)
def stepG (p : Post) (row : List Int) (first : Bool) (g : Int → Option (Int × Int)) : Int → Option (Int × Int) := fun f => (g f).bind (stepX p row first f)
def partG (p : Post) (row : List Int) (first : Bool) (g : Int → Option (Int × Int)) (i : Nat) : Int → Option (Int × Int) := fun f => if f < (i : Int) - 1 then stepG p row first g f else g f
structure PostOK (p : Post) : Prop where
  len : 1 ≤ p.errs.length ∧ p.errs.length ≤ 10
  errs : ∀ i, i < p.errs.length → 0 ≤ p.errs.getD i 0 ∧ p.errs.getD i 0 ≤ 1000
  gain : 0 ≤ p.gain ∧ p.gain ≤ 200
  drop : 0 ≤ p.drop ∧ p.drop ≤ 200
  fall : 1 ≤ p.fall ∧ p.fall ≤ 1000
  out : 0 ≤ p.out ∧ p.out ≤ 60
  ahead : 0 ≤ p.ahead ∧ p.ahead ≤ 60
structure RowOK (p : Post) (row : List Int) : Prop where
  len : row.length = p.errs.length
  reads : ∀ i, i < row.length → -1000 ≤ row.getD i 0 ∧ row.getD i 0 ≤ 2000
def GOK (g : Int → Option (Int × Int)) : Prop := ∀ f x, g f = some x → 0 ≤ x.1 ∧ x.1 ≤ x.2 ∧ x.2 ≤ 1000
def nxH (p : Post) (row : List Int) (first : Bool) (m : List (Int × Int × Int)) : List (Option ABlk) :=
  [some (.cells 142 1 0 (watchC p 1)), some (.map (mpC m)), some (.cells 115 1 0 [.ptr 0 0 0]), some (.cells 22 1 0 [sl row]), some (.cells 4 1 0 [.bool first]), some (.cells 123 1 0 [.fn (.func 68) [.agg (postC p)] []]), some (.cells 115 1 0 [.ptr 0 0 0])]
def nxT (row : List Int) : List AV := mkT 76 [(3, .ptr 2 0 0), (4, .ptr 3 0 0), (5, .ptr 4 0 0), (6, .ptr 5 0 0), (16, .fn (.func 87) [] [.ptr 6 0 0])]
theorem part_zero {p : Post} {row : List Int} {first : Bool} {g : Int → Option (Int × Int)} : canon p.errs.length (partG p row first g 0) = canon p.errs.length g :=
  canon_congr fun j h1 h2 => by simp only [partG]; rw [if_neg (by omega)]
theorem part_all {p : Post} {row : List Int} {first : Bool} {g : Int → Option (Int × Int)} {i : Nat} (h : p.errs.length < i) : canon p.errs.length (partG p row first g i) = canon p.errs.length (stepG p row first g) :=
  canon_congr fun j h1 h2 => by simp only [partG]; rw [if_pos (by omega)]
theorem part_succ {p : Post} {row : List Int} {first : Bool} {g : Int → Option (Int × Int)} {i : Nat} : partG p row first g (i + 1) = updI (partG p row first g i) ((i : Int) - 1) (stepG p row first g ((i : Int) - 1)) := by
  funext f
  simp only [partG, updI]
  by_cases e : f = (i : Int) - 1
  · rw [if_pos e, if_pos (by omega), e]
  · rw [if_neg e]
    by_cases h : f < (i : Int) - 1
    · rw [if_pos h, if_pos (by omega)]
    · rw [if_neg h, if_neg (by omega)]
theorem next_c (p : Post) (g : Int → Option (Int × Int)) (row : List Int) (first : Bool) (hp : PostOK p) (hr : RowOK p row) (hg : GOK g) : SemF Try.prog 73 [.ptr 0 0 0, sl row, .bool first] [some (.cells 142 1 0 (watchC p 1)), some (.map (mpC (canon p.errs.length g)))] (.tup []) [some (.cells 142 1 0 (watchC p 1)), some (.map (mpC (canon p.errs.length (stepG p row first g))))] := by
  obtain ⟨hl1, hl2⟩ := hp.len
  (refine semF_of_awp (ys := []) (fun w args => Try.call73 ..) Try.func73 rfl (fun w0 m0 wz => ?_); simp only [Try.ntmps73, Try.results73, initT, junks, postC, watchC, sl, List.toList_toArray, List.cons_append, List.nil_append, List.length_cons, List.length_nil, Nat.reduceAdd, Nat.reduceSub])
  ((repeat refine awp_seqK ?_); refine awp_region ?_; simp (maxSteps := 4000000) only [go_sem, List.append_eq, List.cons_append, List.nil_append, Nat.reduceAdd, Nat.reduceMul, Nat.reduceSub, Nat.reduceLeDiff, Nat.reduceLT, Int.reduceAdd, Int.reduceToNat, Int.reduceLE, Int.reduceLT, Int.reduceNeg, reduceIte, postC, watchC]; refine kt ?_)
  ((repeat refine awp_seqK ?_); refine awp_region ?_; simp (maxSteps := 4000000) only [go_sem, List.append_eq, List.cons_append, List.nil_append, Nat.reduceAdd, Nat.reduceMul, Nat.reduceSub, Nat.reduceLeDiff, Nat.reduceLT, Int.reduceAdd, Int.reduceToNat, Int.reduceLE, Int.reduceLT, Int.reduceNeg, reduceIte, postC, watchC]; refine kt ?_)
  ((repeat refine awp_seqK ?_); refine awp_ownN 1 rfl ?_; simp (maxSteps := 4000000) only [go_sem, List.append_eq, List.cons_append, List.nil_append, Nat.reduceAdd, Nat.reduceMul, Nat.reduceSub, Nat.reduceLeDiff, Nat.reduceLT, Int.reduceAdd, Int.reduceToNat, Int.reduceLE, Int.reduceLT, Int.reduceNeg, reduceIte, postC, watchC, List.take_succ_cons, List.take_zero]; refine own_go (failing_c p (canon p.errs.length g)) [0, 1] rfl (by simp (maxSteps := 4000000) only [go_sem, List.append_eq, List.cons_append, List.nil_append, Nat.reduceAdd, Nat.reduceMul, Nat.reduceSub, Nat.reduceLeDiff, Nat.reduceLT, Int.reduceAdd, Int.reduceToNat, Int.reduceLE, Int.reduceLT, Int.reduceNeg, reduceIte, postC, watchC]) (by simp (maxSteps := 4000000) only [go_sem, List.append_eq, List.cons_append, List.nil_append, Nat.reduceAdd, Nat.reduceMul, Nat.reduceSub, Nat.reduceLeDiff, Nat.reduceLT, Int.reduceAdd, Int.reduceToNat, Int.reduceLE, Int.reduceLT, Int.reduceNeg, reduceIte, postC, watchC, Nat.lt_irrefl] <;> decide) rfl ?_; simp (maxSteps := 4000000) only [go_sem, List.append_eq, List.cons_append, List.nil_append, Nat.reduceAdd, Nat.reduceMul, Nat.reduceSub, Nat.reduceLeDiff, Nat.reduceLT, Int.reduceAdd, Int.reduceToNat, Int.reduceLE, Int.reduceLT, Int.reduceNeg, reduceIte, postC, watchC]; refine kt ?_)
  refine awp_block ?_
  refine AWP.le2 (s' := ⟨nxT row, nxH p row first (canon p.errs.length g), []⟩) (by simp only [nxT, nxH, postC, watchC]; simp (maxSteps := 4000000) only [go_sem, List.append_eq, List.cons_append, List.nil_append, Nat.reduceAdd, Nat.reduceMul, Nat.reduceSub, Nat.reduceLeDiff, Nat.reduceLT, Int.reduceAdd, Int.reduceToNat, Int.reduceLE, Int.reduceLT, Int.reduceNeg, reduceIte, postC, watchC]) ?_
  refine awp_rangeZ (gf := 87) (first := []) (caps := [.ptr 6 0 0]) (by simp only [nxT]; simp (maxSteps := 4000000) only [go_sem, List.append_eq, List.cons_append, List.nil_append, Nat.reduceAdd, Nat.reduceMul, Nat.reduceSub, Nat.reduceLeDiff, Nat.reduceLT, Int.reduceAdd, Int.reduceToNat, Int.reduceLE, Int.reduceLT, Int.reduceNeg, reduceIte, postC, watchC]) 7 rfl ?_
  intro ca cb hca hcb
  refine ⟨.tup [], nxH p row first (canon p.errs.length (stepG p row first g)) ++ [some (.dfr true), some (.loop .ready none 0 (nxT row) #[17, 18] ca cb 7)], .ready, none, .normal, ?_, ?_, by simp, rfl, ?_⟩
  · simp only [nxH, nxT, postC, watchC]
    simp (maxSteps := 4000000) only [go_sem, List.append_eq, List.cons_append, List.nil_append, Nat.reduceAdd, Nat.reduceMul, Nat.reduceSub, Nat.reduceLeDiff, Nat.reduceLT, Int.reduceAdd, Int.reduceToNat, Int.reduceLE, Int.reduceLT, Int.reduceNeg, reduceIte, postC, watchC]
    (refine semF_of_awp (ys := []) (fun w args => Try.call87 ..) Try.func87 rfl (fun w0 m0 wz => ?_); simp only [Try.ntmps87, Try.results87, initT, junks, postC, watchC, sl, List.toList_toArray, List.cons_append, List.nil_append, List.length_cons, List.length_nil, Nat.reduceAdd, Nat.reduceSub])
    (repeat' (first
    | (refine awp_seqK ?_)
    | (refine kt ?_)
    | (refine And.intro ?_ ?_)
    | ((first | refine awp_region ?_ | refine awp_draw (by kernel_rfl) (by kernel_rfl) ?_ | refine Imp.le2 ?_ | refine awp_label ?_ | refine awp_skip ?_ | refine awp_exit ?_ | refine awp_cd ?_ | refine awp_ret ?_); simp (maxSteps := 4000000) only [go_sem, List.append_eq, List.cons_append, List.nil_append, Nat.reduceAdd, Nat.reduceMul, Nat.reduceSub, Nat.reduceLeDiff, Nat.reduceLT, Int.reduceAdd, Int.reduceToNat, Int.reduceLE, Int.reduceLT, Int.reduceNeg, reduceIte, postC, watchC])
    | (intro _h)
    | (refine awp_block ?_)
    | (refine awp_scope ?_)
    | (refine go_split (fun _h => ?_) (fun _h => ?_) <;> simp (maxSteps := 4000000) only [go_sem, List.append_eq, List.cons_append, List.nil_append, Nat.reduceAdd, Nat.reduceMul, Nat.reduceSub, Nat.reduceLeDiff, Nat.reduceLT, Int.reduceAdd, Int.reduceToNat, Int.reduceLE, Int.reduceLT, Int.reduceNeg, reduceIte, postC, watchC])
    | (show heapOK _ _ = true; kernel_rfl)
    | (omega)))
    refine awp_loopN (p.errs.length + 1) (fun i => ⟨mkT 33 [(0, .fn (.yield 8) [] []), (1, .ptr 6 0 0), (3, .int .i64 ((i : Int) - 1))], nxH p row first (canon p.errs.length (partG p row first g i)) ++ [some (.dfr true), some (.loop .ready none 0 (nxT row) #[17, 18] ca cb 7)], []⟩) (.le2 ?_) ?_
    · simp only [nxH, nxT, postC, watchC]; simp (maxSteps := 4000000) only [go_sem, List.append_eq, List.cons_append, List.nil_append, Nat.reduceAdd, Nat.reduceMul, Nat.reduceSub, Nat.reduceLeDiff, Nat.reduceLT, Int.reduceAdd, Int.reduceToNat, Int.reduceLE, Int.reduceLT, Int.reduceNeg, reduceIte, postC, watchC]
      rw [part_zero]
      exact ⟨rfl, rfl⟩
    · intro i hi
      have hgi := canon_get (n := p.errs.length) (g := partG p row first g i) (j := (i : Int) - 1) (by omega)
      have hgi' : partG p row first g i ((i : Int) - 1) = g ((i : Int) - 1) := by simp only [partG]; rw [if_neg (by omega)]
      cases hx : g ((i : Int) - 1) with
      | none =>
        simp only [nxH, nxT, postC, watchC]; simp (maxSteps := 4000000) only [go_sem, List.append_eq, List.cons_append, List.nil_append, Nat.reduceAdd, Nat.reduceMul, Nat.reduceSub, Nat.reduceLeDiff, Nat.reduceLT, Int.reduceAdd, Int.reduceToNat, Int.reduceLE, Int.reduceLT, Int.reduceNeg, reduceIte, postC, watchC]
        (repeat' (first
    | ((rw [mget_none ((hgi (by omega)).trans (hgi'.trans hx))]; simp (maxSteps := 4000000) only [go_sem, List.append_eq, List.cons_append, List.nil_append, Nat.reduceAdd, Nat.reduceMul, Nat.reduceSub, Nat.reduceLeDiff, Nat.reduceLT, Int.reduceAdd, Int.reduceToNat, Int.reduceLE, Int.reduceLT, Int.reduceNeg, reduceIte, postC, watchC]))
    | ((show zeroOK _ = true; rfl))
    | (refine awp_seqK ?_)
    | (refine kt ?_)
    | (refine And.intro ?_ ?_)
    | ((first | refine awp_region ?_ | refine awp_draw (by kernel_rfl) (by kernel_rfl) ?_ | refine Imp.le2 ?_ | refine awp_label ?_ | refine awp_skip ?_ | refine awp_exit ?_ | refine awp_cd ?_ | refine awp_ret ?_); simp (maxSteps := 4000000) only [go_sem, List.append_eq, List.cons_append, List.nil_append, Nat.reduceAdd, Nat.reduceMul, Nat.reduceSub, Nat.reduceLeDiff, Nat.reduceLT, Int.reduceAdd, Int.reduceToNat, Int.reduceLE, Int.reduceLT, Int.reduceNeg, reduceIte, postC, watchC])
    | (intro _h)
    | (refine awp_block ?_)
    | (refine awp_scope ?_)
    | (refine go_split (fun _h => ?_) (fun _h => ?_) <;> simp (maxSteps := 4000000) only [go_sem, List.append_eq, List.cons_append, List.nil_append, Nat.reduceAdd, Nat.reduceMul, Nat.reduceSub, Nat.reduceLeDiff, Nat.reduceLT, Int.reduceAdd, Int.reduceToNat, Int.reduceLE, Int.reduceLT, Int.reduceNeg, reduceIte, postC, watchC])
    | (show heapOK _ _ = true; kernel_rfl)
    | (omega)))
        · have e : partG p row first g (i + 1) = partG p row first g i := by
            rw [part_succ]; funext f; simp only [updI]
            by_cases e : f = (i : Int) - 1
            · rw [if_pos e, e, hgi', hx]; simp [stepG, hx]
            · rw [if_neg e]
          rw [e]
        · rw [part_all (by omega)]
      | some x =>
        simp only [nxH, nxT, postC, watchC]; simp (maxSteps := 4000000) only [go_sem, List.append_eq, List.cons_append, List.nil_append, Nat.reduceAdd, Nat.reduceMul, Nat.reduceSub, Nat.reduceLeDiff, Nat.reduceLT, Int.reduceAdd, Int.reduceToNat, Int.reduceLE, Int.reduceLT, Int.reduceNeg, reduceIte, postC, watchC]
        (repeat' (first
    | ((rw [mget_some ((hgi (by omega)).trans (hgi'.trans hx))]; simp (maxSteps := 4000000) only [go_sem, List.append_eq, List.cons_append, List.nil_append, Nat.reduceAdd, Nat.reduceMul, Nat.reduceSub, Nat.reduceLeDiff, Nat.reduceLT, Int.reduceAdd, Int.reduceToNat, Int.reduceLE, Int.reduceLT, Int.reduceNeg, reduceIte, postC, watchC]))
    | ((show zeroOK _ = true; rfl))
    | ((refine awp_ownN 5 rfl ?_; simp (maxSteps := 4000000) only [go_sem, List.append_eq, List.cons_append, List.nil_append, Nat.reduceAdd, Nat.reduceMul, Nat.reduceSub, Nat.reduceLeDiff, Nat.reduceLT, Int.reduceAdd, Int.reduceToNat, Int.reduceLE, Int.reduceLT, Int.reduceNeg, reduceIte, postC, watchC, List.take_succ_cons, List.take_zero]; refine callH_yield true (nxH p row first (canon p.errs.length (partG p row first g (i + 1))) ++ [some (.dfr true), some (.loop .ready none 0 (nxT row) #[17, 18] ca cb 7), some (.cells 122 1 0 [.int .i64 x.1, .int .i64 x.2])]) ?_ ?_ <;> simp only [nxH, nxT, postC, watchC] <;> (try simp (maxSteps := 4000000) only [go_sem, List.append_eq, List.cons_append, List.nil_append, Nat.reduceAdd, Nat.reduceMul, Nat.reduceSub, Nat.reduceLeDiff, Nat.reduceLT, Int.reduceAdd, Int.reduceToNat, Int.reduceLE, Int.reduceLT, Int.reduceNeg, reduceIte, postC, watchC])))
    | (refine awp_seqK ?_)
    | (refine kt ?_)
    | (refine And.intro ?_ ?_)
    | ((first | refine awp_region ?_ | refine awp_draw (by kernel_rfl) (by kernel_rfl) ?_ | refine Imp.le2 ?_ | refine awp_label ?_ | refine awp_skip ?_ | refine awp_exit ?_ | refine awp_cd ?_ | refine awp_ret ?_); simp (maxSteps := 4000000) only [go_sem, List.append_eq, List.cons_append, List.nil_append, Nat.reduceAdd, Nat.reduceMul, Nat.reduceSub, Nat.reduceLeDiff, Nat.reduceLT, Int.reduceAdd, Int.reduceToNat, Int.reduceLE, Int.reduceLT, Int.reduceNeg, reduceIte, postC, watchC])
    | (intro _h)
    | (refine awp_block ?_)
    | (refine awp_scope ?_)
    | (refine go_split (fun _h => ?_) (fun _h => ?_) <;> simp (maxSteps := 4000000) only [go_sem, List.append_eq, List.cons_append, List.nil_append, Nat.reduceAdd, Nat.reduceMul, Nat.reduceSub, Nat.reduceLeDiff, Nat.reduceLT, Int.reduceAdd, Int.reduceToNat, Int.reduceLE, Int.reduceLT, Int.reduceNeg, reduceIte, postC, watchC])
    | (show heapOK _ _ = true; kernel_rfl)
    | (omega)))
        · have hx1 := hg _ _ hx
          have hd := hp.drop
          have hga := hp.gain
          have hag := agreed_c p row ((i : Int) - 1) hr.len (by have := hr.len; omega) hr.reads hp.errs
          simp only [postC] at hag
          have hst : stepG p row first g ((i : Int) - 1) = stepX p row first ((i : Int) - 1) x := by simp [stepG, hx]
          rw [part_succ, hst]
          simp only [stepX]
          generalize agreedEnds p.errs row ((i : Int) - 1) = y at *
          obtain ⟨y1, y2⟩ := y
          cases first
          · refine semY_of_awpZ rfl rfl ?_
            intro B w0 l m w
            refine awp_code hca ?_
            (repeat' (first
    | (refine awp_seqK ?_)
    | (refine kt ?_)
    | (refine And.intro ?_ ?_)
    | ((first | refine awp_region ?_ | refine awp_draw (by kernel_rfl) (by kernel_rfl) ?_ | refine Imp.le2 ?_ | refine awp_label ?_ | refine awp_skip ?_ | refine awp_exit ?_ | refine awp_cd ?_ | refine awp_ret ?_); simp (maxSteps := 4000000) only [go_sem, List.append_eq, List.cons_append, List.nil_append, Nat.reduceAdd, Nat.reduceMul, Nat.reduceSub, Nat.reduceLeDiff, Nat.reduceLT, Int.reduceAdd, Int.reduceToNat, Int.reduceLE, Int.reduceLT, Int.reduceNeg, reduceIte, postC, watchC])
    | (intro _h)
    | (refine awp_block ?_)
    | (refine awp_scope ?_)
    | (refine go_split (fun _h => ?_) (fun _h => ?_) <;> simp (maxSteps := 4000000) only [go_sem, List.append_eq, List.cons_append, List.nil_append, Nat.reduceAdd, Nat.reduceMul, Nat.reduceSub, Nat.reduceLeDiff, Nat.reduceLT, Int.reduceAdd, Int.reduceToNat, Int.reduceLE, Int.reduceLT, Int.reduceNeg, reduceIte, postC, watchC])
    | (show heapOK _ _ = true; kernel_rfl)
    | (omega)))
            refine awp_code hcb ?_
            (repeat' (first
    | (refine awp_seqK ?_)
    | (refine kt ?_)
    | (refine And.intro ?_ ?_)
    | ((first | refine awp_region ?_ | refine awp_draw (by kernel_rfl) (by kernel_rfl) ?_ | refine Imp.le2 ?_ | refine awp_label ?_ | refine awp_skip ?_ | refine awp_exit ?_ | refine awp_cd ?_ | refine awp_ret ?_); simp (maxSteps := 4000000) only [go_sem, List.append_eq, List.cons_append, List.nil_append, Nat.reduceAdd, Nat.reduceMul, Nat.reduceSub, Nat.reduceLeDiff, Nat.reduceLT, Int.reduceAdd, Int.reduceToNat, Int.reduceLE, Int.reduceLT, Int.reduceNeg, reduceIte, postC, watchC])
    | (intro _h)
    | (refine awp_block ?_)
    | (refine awp_scope ?_)
    | ((first | refine callK_of (hag) ?_ | refine callK_of (greatest_c _ _ _) ?_ | refine callK_of (least_c _ _ _) ?_ | refine callK_of (nothing_c) ?_); try simp (maxSteps := 4000000) only [go_sem, List.append_eq, List.cons_append, List.nil_append, Nat.reduceAdd, Nat.reduceMul, Nat.reduceSub, Nat.reduceLeDiff, Nat.reduceLT, Int.reduceAdd, Int.reduceToNat, Int.reduceLE, Int.reduceLT, Int.reduceNeg, reduceIte, postC, watchC])
    | (refine go_split (fun _h => ?_) (fun _h => ?_) <;> simp (maxSteps := 4000000) only [go_sem, List.append_eq, List.cons_append, List.nil_append, Nat.reduceAdd, Nat.reduceMul, Nat.reduceSub, Nat.reduceLeDiff, Nat.reduceLT, Int.reduceAdd, Int.reduceToNat, Int.reduceLE, Int.reduceLT, Int.reduceNeg, reduceIte, postC, watchC])
    | (show heapOK _ _ = true; kernel_rfl)
    | (omega)))
            all_goals simp only [Bool.false_eq_true, if_false, if_true, Prod.mk.injEq]
            all_goals first
              | (rw [canon_del, if_pos (by omega)])
              | (rw [canon_put (by omega) (by omega) (.inl (by rw [hgi', hx]; rfl)), if_neg (by omega)])
          · refine semY_of_awpZ rfl rfl ?_
            intro B w0 l m w
            refine awp_code hca ?_
            (repeat' (first
    | (refine awp_seqK ?_)
    | (refine kt ?_)
    | (refine And.intro ?_ ?_)
    | ((first | refine awp_region ?_ | refine awp_draw (by kernel_rfl) (by kernel_rfl) ?_ | refine Imp.le2 ?_ | refine awp_label ?_ | refine awp_skip ?_ | refine awp_exit ?_ | refine awp_cd ?_ | refine awp_ret ?_); simp (maxSteps := 4000000) only [go_sem, List.append_eq, List.cons_append, List.nil_append, Nat.reduceAdd, Nat.reduceMul, Nat.reduceSub, Nat.reduceLeDiff, Nat.reduceLT, Int.reduceAdd, Int.reduceToNat, Int.reduceLE, Int.reduceLT, Int.reduceNeg, reduceIte, postC, watchC])
    | (intro _h)
    | (refine awp_block ?_)
    | (refine awp_scope ?_)
    | (refine go_split (fun _h => ?_) (fun _h => ?_) <;> simp (maxSteps := 4000000) only [go_sem, List.append_eq, List.cons_append, List.nil_append, Nat.reduceAdd, Nat.reduceMul, Nat.reduceSub, Nat.reduceLeDiff, Nat.reduceLT, Int.reduceAdd, Int.reduceToNat, Int.reduceLE, Int.reduceLT, Int.reduceNeg, reduceIte, postC, watchC])
    | (show heapOK _ _ = true; kernel_rfl)
    | (omega)))
            refine awp_code hcb ?_
            (repeat' (first
    | (refine awp_seqK ?_)
    | (refine kt ?_)
    | (refine And.intro ?_ ?_)
    | ((first | refine awp_region ?_ | refine awp_draw (by kernel_rfl) (by kernel_rfl) ?_ | refine Imp.le2 ?_ | refine awp_label ?_ | refine awp_skip ?_ | refine awp_exit ?_ | refine awp_cd ?_ | refine awp_ret ?_); simp (maxSteps := 4000000) only [go_sem, List.append_eq, List.cons_append, List.nil_append, Nat.reduceAdd, Nat.reduceMul, Nat.reduceSub, Nat.reduceLeDiff, Nat.reduceLT, Int.reduceAdd, Int.reduceToNat, Int.reduceLE, Int.reduceLT, Int.reduceNeg, reduceIte, postC, watchC])
    | (intro _h)
    | (refine awp_block ?_)
    | (refine awp_scope ?_)
    | ((first | refine callK_of (hag) ?_ | refine callK_of (greatest_c _ _ _) ?_ | refine callK_of (least_c _ _ _) ?_ | refine callK_of (nothing_c) ?_); try simp (maxSteps := 4000000) only [go_sem, List.append_eq, List.cons_append, List.nil_append, Nat.reduceAdd, Nat.reduceMul, Nat.reduceSub, Nat.reduceLeDiff, Nat.reduceLT, Int.reduceAdd, Int.reduceToNat, Int.reduceLE, Int.reduceLT, Int.reduceNeg, reduceIte, postC, watchC])
    | (refine go_split (fun _h => ?_) (fun _h => ?_) <;> simp (maxSteps := 4000000) only [go_sem, List.append_eq, List.cons_append, List.nil_append, Nat.reduceAdd, Nat.reduceMul, Nat.reduceSub, Nat.reduceLeDiff, Nat.reduceLT, Int.reduceAdd, Int.reduceToNat, Int.reduceLE, Int.reduceLT, Int.reduceNeg, reduceIte, postC, watchC])
    | (show heapOK _ _ = true; kernel_rfl)
    | (omega)))
            all_goals simp only [Bool.false_eq_true, if_false, if_true, Prod.mk.injEq]
            all_goals first
              | (rw [canon_del, if_pos (by omega)])
              | (rw [canon_put (by omega) (by omega) (.inl (by rw [hgi', hx]; rfl)), if_neg (by omega)])
        · rw [part_all (by omega)]
  · rfl
  · simp only [nxH, nxT, postC, watchC]
    simp (maxSteps := 4000000) only [go_sem, List.append_eq, List.cons_append, List.nil_append, Nat.reduceAdd, Nat.reduceMul, Nat.reduceSub, Nat.reduceLeDiff, Nat.reduceLT, Int.reduceAdd, Int.reduceToNat, Int.reduceLE, Int.reduceLT, Int.reduceNeg, reduceIte, postC, watchC]
end Go.Am
