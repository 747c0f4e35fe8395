/- MADE BY A PROGRAM of ours (wip/tools/Tab): what the program's table says of the types that the walks meet. -/
import Derived.Test.YtnjommobapmgbaaAmS
import Derived.Test.YtnjommobapmgbaaProg
import Derived.KernelRfl
namespace Go.Am
open Go.RowKit Go.Proofs
theorem tsz3 : tsz Try.prog 3 = some 1 := by kernel_rfl
theorem tagg3 : tagg Try.prog 3 = some false := by kernel_rfl
theorem tint3 : tint Try.prog 3 = some .i64 := by kernel_rfl
theorem tund3 : (Try.prog.underlying 3).isSome = true := by kernel_rfl
theorem tbytes3 : tbytes Try.prog 3 = some 8 := by kernel_rfl
theorem tzero3 : tzero Try.prog 3 = some [.int .i64 0] := by kernel_rfl
theorem tzv3 : tzv Try.prog 3 = some (.int .i64 0) := by kernel_rfl
theorem tsz4 : tsz Try.prog 4 = some 1 := by kernel_rfl
theorem tagg4 : tagg Try.prog 4 = some false := by kernel_rfl
theorem tbytes4 : tbytes Try.prog 4 = some 1 := by kernel_rfl
theorem tzero4 : tzero Try.prog 4 = some [.bool false] := by kernel_rfl
theorem tzv4 : tzv Try.prog 4 = some (.bool false) := by kernel_rfl
theorem tsz5 : tsz Try.prog 5 = some 1 := by kernel_rfl
theorem tagg5 : tagg Try.prog 5 = some false := by kernel_rfl
theorem tint5 : tint Try.prog 5 = some .u8 := by kernel_rfl
theorem tund5 : (Try.prog.underlying 5).isSome = true := by kernel_rfl
theorem tbytes5 : tbytes Try.prog 5 = some 1 := by kernel_rfl
theorem tzero5 : tzero Try.prog 5 = some [.int .u8 0] := by kernel_rfl
theorem tzv5 : tzv Try.prog 5 = some (.int .u8 0) := by kernel_rfl
theorem tsz11 : tsz Try.prog 11 = some 1 := by kernel_rfl
theorem tagg11 : tagg Try.prog 11 = some false := by kernel_rfl
theorem tbytes11 : tbytes Try.prog 11 = some 16 := by kernel_rfl
theorem tzero11 : tzero Try.prog 11 = some [.str (ByteArray.mk #[])] := by kernel_rfl
theorem tzv11 : tzv Try.prog 11 = some (.str (ByteArray.mk #[])) := by kernel_rfl
theorem tsz12 : tsz Try.prog 12 = some 1 := by kernel_rfl
theorem tagg12 : tagg Try.prog 12 = some false := by kernel_rfl
theorem tint12 : tint Try.prog 12 = some .u64 := by kernel_rfl
theorem tund12 : (Try.prog.underlying 12).isSome = true := by kernel_rfl
theorem tbytes12 : tbytes Try.prog 12 = some 8 := by kernel_rfl
theorem tzero12 : tzero Try.prog 12 = some [.int .u64 0] := by kernel_rfl
theorem tzv12 : tzv Try.prog 12 = some (.int .u64 0) := by kernel_rfl
theorem tsz17 : tsz Try.prog 17 = some 1 := by kernel_rfl
theorem tagg17 : tagg Try.prog 17 = some false := by kernel_rfl
theorem tbytes17 : tbytes Try.prog 17 = some 8 := by kernel_rfl
theorem tzero17 : tzero Try.prog 17 = some [.nilp] := by kernel_rfl
theorem tzv17 : tzv Try.prog 17 = some (.nilp) := by kernel_rfl
theorem tsz18 : tsz Try.prog 18 = some 1 := by kernel_rfl
theorem tagg18 : tagg Try.prog 18 = some true := by kernel_rfl
theorem tarr18 : tarr Try.prog 18 = none := by kernel_rfl
theorem tbytes18 : tbytes Try.prog 18 = some 8 := by kernel_rfl
theorem tzero18 : tzero Try.prog 18 = some [.nilp] := by kernel_rfl
theorem tzv18 : tzv Try.prog 18 = some (.agg [.nilp]) := by kernel_rfl
theorem tplaces18 : tplaces Try.prog 18 = some [(0, 1)] := by kernel_rfl
theorem tfld18_0 : tfld Try.prog 18 0 = some (0, 17) := by kernel_rfl
theorem tsz22 : tsz Try.prog 22 = some 1 := by kernel_rfl
theorem tagg22 : tagg Try.prog 22 = some false := by kernel_rfl
theorem tslice22 : tslice Try.prog 22 = some 3 := by kernel_rfl
theorem tbytes22 : tbytes Try.prog 22 = some 24 := by kernel_rfl
theorem tzero22 : tzero Try.prog 22 = some [.nils] := by kernel_rfl
theorem tzv22 : tzv Try.prog 22 = some (.nils) := by kernel_rfl
theorem tsz24 : tsz Try.prog 24 = some 2 := by kernel_rfl
theorem tagg24 : tagg Try.prog 24 = some true := by kernel_rfl
theorem tarr24 : tarr Try.prog 24 = none := by kernel_rfl
theorem tbytes24 : tbytes Try.prog 24 = some 32 := by kernel_rfl
theorem tzero24 : tzero Try.prog 24 = some [.nils, .bool false] := by kernel_rfl
theorem tzv24 : tzv Try.prog 24 = some (.agg [.nils, .bool false]) := by kernel_rfl
theorem tplaces24 : tplaces Try.prog 24 = some [(0, 1), (1, 1)] := by kernel_rfl
theorem tfld24_0 : tfld Try.prog 24 0 = some (0, 22) := by kernel_rfl
theorem tfld24_1 : tfld Try.prog 24 1 = some (1, 4) := by kernel_rfl
theorem tsz26 : tsz Try.prog 26 = some 3 := by kernel_rfl
theorem tagg26 : tagg Try.prog 26 = some true := by kernel_rfl
theorem tarr26 : tarr Try.prog 26 = none := by kernel_rfl
theorem tbytes26 : tbytes Try.prog 26 = some 24 := by kernel_rfl
theorem tzero26 : tzero Try.prog 26 = some [.int .i64 0, .int .i64 0, .int .i64 0] := by kernel_rfl
theorem tzv26 : tzv Try.prog 26 = some (.agg [.int .i64 0, .int .i64 0, .int .i64 0]) := by kernel_rfl
theorem tplaces26 : tplaces Try.prog 26 = some [(0, 1), (1, 1), (2, 1)] := by kernel_rfl
theorem tfld26_0 : tfld Try.prog 26 0 = some (0, 3) := by kernel_rfl
theorem tfld26_1 : tfld Try.prog 26 1 = some (1, 3) := by kernel_rfl
theorem tfld26_2 : tfld Try.prog 26 2 = some (2, 3) := by kernel_rfl
theorem tsz28 : tsz Try.prog 28 = some 1 := by kernel_rfl
theorem tagg28 : tagg Try.prog 28 = some false := by kernel_rfl
theorem tslice28 : tslice Try.prog 28 = some 42 := by kernel_rfl
theorem tbytes28 : tbytes Try.prog 28 = some 24 := by kernel_rfl
theorem tzero28 : tzero Try.prog 28 = some [.nils] := by kernel_rfl
theorem tzv28 : tzv Try.prog 28 = some (.nils) := by kernel_rfl
theorem tsz29 : tsz Try.prog 29 = some 1 := by kernel_rfl
theorem tagg29 : tagg Try.prog 29 = some false := by kernel_rfl
theorem tint29 : tint Try.prog 29 = some .i64 := by kernel_rfl
theorem tund29 : (Try.prog.underlying 29).isSome = true := by kernel_rfl
theorem tbytes29 : tbytes Try.prog 29 = some 8 := by kernel_rfl
theorem tzero29 : tzero Try.prog 29 = some [.int .i64 0] := by kernel_rfl
theorem tzv29 : tzv Try.prog 29 = some (.int .i64 0) := by kernel_rfl
theorem tsz32 : tsz Try.prog 32 = some 2 := by kernel_rfl
theorem tagg32 : tagg Try.prog 32 = some true := by kernel_rfl
theorem tarr32 : tarr Try.prog 32 = none := by kernel_rfl
theorem tbytes32 : tbytes Try.prog 32 = some 32 := by kernel_rfl
theorem tzero32 : tzero Try.prog 32 = some [.nils, .bool false] := by kernel_rfl
theorem tzv32 : tzv Try.prog 32 = some (.agg [.nils, .bool false]) := by kernel_rfl
theorem tplaces32 : tplaces Try.prog 32 = some [(0, 1), (1, 1)] := by kernel_rfl
theorem tfld32_0 : tfld Try.prog 32 0 = some (0, 22) := by kernel_rfl
theorem tfld32_1 : tfld Try.prog 32 1 = some (1, 4) := by kernel_rfl
theorem tsz34 : tsz Try.prog 34 = some 3 := by kernel_rfl
theorem tagg34 : tagg Try.prog 34 = some true := by kernel_rfl
theorem tarr34 : tarr Try.prog 34 = none := by kernel_rfl
theorem tbytes34 : tbytes Try.prog 34 = some 24 := by kernel_rfl
theorem tzero34 : tzero Try.prog 34 = some [.int .i64 0, .int .i64 0, .int .i64 0] := by kernel_rfl
theorem tzv34 : tzv Try.prog 34 = some (.agg [.int .i64 0, .int .i64 0, .int .i64 0]) := by kernel_rfl
theorem tplaces34 : tplaces Try.prog 34 = some [(0, 1), (1, 1), (2, 1)] := by kernel_rfl
theorem tfld34_0 : tfld Try.prog 34 0 = some (0, 3) := by kernel_rfl
theorem tfld34_1 : tfld Try.prog 34 1 = some (1, 3) := by kernel_rfl
theorem tfld34_2 : tfld Try.prog 34 2 = some (2, 3) := by kernel_rfl
theorem tsz37 : tsz Try.prog 37 = some 1 := by kernel_rfl
theorem tagg37 : tagg Try.prog 37 = some false := by kernel_rfl
theorem tslice37 : tslice Try.prog 37 = some 24 := by kernel_rfl
theorem tbytes37 : tbytes Try.prog 37 = some 24 := by kernel_rfl
theorem tzero37 : tzero Try.prog 37 = some [.nils] := by kernel_rfl
theorem tzv37 : tzv Try.prog 37 = some (.nils) := by kernel_rfl
theorem tsz39 : tsz Try.prog 39 = some 1 := by kernel_rfl
theorem tagg39 : tagg Try.prog 39 = some false := by kernel_rfl
theorem tslice39 : tslice Try.prog 39 = some 43 := by kernel_rfl
theorem tbytes39 : tbytes Try.prog 39 = some 24 := by kernel_rfl
theorem tzero39 : tzero Try.prog 39 = some [.nils] := by kernel_rfl
theorem tzv39 : tzv Try.prog 39 = some (.nils) := by kernel_rfl
theorem tsz42 : tsz Try.prog 42 = some 2 := by kernel_rfl
theorem tagg42 : tagg Try.prog 42 = some true := by kernel_rfl
theorem tarr42 : tarr Try.prog 42 = none := by kernel_rfl
theorem tbytes42 : tbytes Try.prog 42 = some 16 := by kernel_rfl
theorem tzero42 : tzero Try.prog 42 = some [.int .i64 0, .int .i64 0] := by kernel_rfl
theorem tzv42 : tzv Try.prog 42 = some (.agg [.int .i64 0, .int .i64 0]) := by kernel_rfl
theorem tplaces42 : tplaces Try.prog 42 = some [(0, 1), (1, 1)] := by kernel_rfl
theorem tfld42_0 : tfld Try.prog 42 0 = some (0, 3) := by kernel_rfl
theorem tfld42_1 : tfld Try.prog 42 1 = some (1, 3) := by kernel_rfl
theorem tsz43 : tsz Try.prog 43 = some 2 := by kernel_rfl
theorem tagg43 : tagg Try.prog 43 = some true := by kernel_rfl
theorem tarr43 : tarr Try.prog 43 = none := by kernel_rfl
theorem tbytes43 : tbytes Try.prog 43 = some 16 := by kernel_rfl
theorem tzero43 : tzero Try.prog 43 = some [.int .i64 0, .int .i64 0] := by kernel_rfl
theorem tzv43 : tzv Try.prog 43 = some (.agg [.int .i64 0, .int .i64 0]) := by kernel_rfl
theorem tplaces43 : tplaces Try.prog 43 = some [(0, 1), (1, 1)] := by kernel_rfl
theorem tfld43_0 : tfld Try.prog 43 0 = some (0, 3) := by kernel_rfl
theorem tfld43_1 : tfld Try.prog 43 1 = some (1, 3) := by kernel_rfl
theorem tsz46 : tsz Try.prog 46 = some 6 := by kernel_rfl
theorem tagg46 : tagg Try.prog 46 = some true := by kernel_rfl
theorem tarr46 : tarr Try.prog 46 = none := by kernel_rfl
theorem tbytes46 : tbytes Try.prog 46 = some 64 := by kernel_rfl
theorem tzero46 : tzero Try.prog 46 = some [.nils, .int .i64 0, .int .i64 0, .int .i64 0, .int .i64 0, .int .i64 0] := by kernel_rfl
theorem tzv46 : tzv Try.prog 46 = some (.agg [.nils, .int .i64 0, .int .i64 0, .int .i64 0, .int .i64 0, .int .i64 0]) := by kernel_rfl
theorem tplaces46 : tplaces Try.prog 46 = some [(0, 1), (1, 1), (2, 1), (3, 1), (4, 1), (5, 1)] := by kernel_rfl
theorem tfld46_0 : tfld Try.prog 46 0 = some (0, 22) := by kernel_rfl
theorem tfld46_1 : tfld Try.prog 46 1 = some (1, 3) := by kernel_rfl
theorem tfld46_2 : tfld Try.prog 46 2 = some (2, 3) := by kernel_rfl
theorem tfld46_3 : tfld Try.prog 46 3 = some (3, 3) := by kernel_rfl
theorem tfld46_4 : tfld Try.prog 46 4 = some (4, 3) := by kernel_rfl
theorem tfld46_5 : tfld Try.prog 46 5 = some (5, 3) := by kernel_rfl
theorem tsz47 : tsz Try.prog 47 = some 1 := by kernel_rfl
theorem tagg47 : tagg Try.prog 47 = some false := by kernel_rfl
theorem tslice47 : tslice Try.prog 47 = some 22 := by kernel_rfl
theorem tbytes47 : tbytes Try.prog 47 = some 24 := by kernel_rfl
theorem tzero47 : tzero Try.prog 47 = some [.nils] := by kernel_rfl
theorem tzv47 : tzv Try.prog 47 = some (.nils) := by kernel_rfl
theorem tsz48 : tsz Try.prog 48 = some 1 := by kernel_rfl
theorem tagg48 : tagg Try.prog 48 = some false := by kernel_rfl
theorem tint48 : tint Try.prog 48 = some .u16 := by kernel_rfl
theorem tund48 : (Try.prog.underlying 48).isSome = true := by kernel_rfl
theorem tbytes48 : tbytes Try.prog 48 = some 2 := by kernel_rfl
theorem tzero48 : tzero Try.prog 48 = some [.int .u16 0] := by kernel_rfl
theorem tzv48 : tzv Try.prog 48 = some (.int .u16 0) := by kernel_rfl
theorem tsz49 : tsz Try.prog 49 = some 1 := by kernel_rfl
theorem tagg49 : tagg Try.prog 49 = some false := by kernel_rfl
theorem tslice49 : tslice Try.prog 49 = some 48 := by kernel_rfl
theorem tbytes49 : tbytes Try.prog 49 = some 24 := by kernel_rfl
theorem tzero49 : tzero Try.prog 49 = some [.nils] := by kernel_rfl
theorem tzv49 : tzv Try.prog 49 = some (.nils) := by kernel_rfl
theorem tsz51 : tsz Try.prog 51 = some 6 := by kernel_rfl
theorem tagg51 : tagg Try.prog 51 = some true := by kernel_rfl
theorem tarr51 : tarr Try.prog 51 = none := by kernel_rfl
theorem tbytes51 : tbytes Try.prog 51 = some 64 := by kernel_rfl
theorem tzero51 : tzero Try.prog 51 = some [.nils, .int .i64 0, .int .i64 0, .int .i64 0, .int .i64 0, .int .i64 0] := by kernel_rfl
theorem tzv51 : tzv Try.prog 51 = some (.agg [.nils, .int .i64 0, .int .i64 0, .int .i64 0, .int .i64 0, .int .i64 0]) := by kernel_rfl
theorem tplaces51 : tplaces Try.prog 51 = some [(0, 1), (1, 1), (2, 1), (3, 1), (4, 1), (5, 1)] := by kernel_rfl
theorem tfld51_0 : tfld Try.prog 51 0 = some (0, 22) := by kernel_rfl
theorem tfld51_1 : tfld Try.prog 51 1 = some (1, 3) := by kernel_rfl
theorem tfld51_2 : tfld Try.prog 51 2 = some (2, 3) := by kernel_rfl
theorem tfld51_3 : tfld Try.prog 51 3 = some (3, 3) := by kernel_rfl
theorem tfld51_4 : tfld Try.prog 51 4 = some (4, 3) := by kernel_rfl
theorem tfld51_5 : tfld Try.prog 51 5 = some (5, 3) := by kernel_rfl
theorem tsz54 : tsz Try.prog 54 = some 1 := by kernel_rfl
theorem tagg54 : tagg Try.prog 54 = some false := by kernel_rfl
theorem tslice54 : tslice Try.prog 54 = some 58 := by kernel_rfl
theorem tbytes54 : tbytes Try.prog 54 = some 24 := by kernel_rfl
theorem tzero54 : tzero Try.prog 54 = some [.nils] := by kernel_rfl
theorem tzv54 : tzv Try.prog 54 = some (.nils) := by kernel_rfl
theorem tsz58 : tsz Try.prog 58 = some 3 := by kernel_rfl
theorem tagg58 : tagg Try.prog 58 = some true := by kernel_rfl
theorem tarr58 : tarr Try.prog 58 = none := by kernel_rfl
theorem tbytes58 : tbytes Try.prog 58 = some 24 := by kernel_rfl
theorem tzero58 : tzero Try.prog 58 = some [.int .i64 0, .int .i64 0, .int .u8 0] := by kernel_rfl
theorem tzv58 : tzv Try.prog 58 = some (.agg [.int .i64 0, .int .i64 0, .int .u8 0]) := by kernel_rfl
theorem tplaces58 : tplaces Try.prog 58 = some [(0, 1), (1, 1), (2, 1)] := by kernel_rfl
theorem tfld58_0 : tfld Try.prog 58 0 = some (0, 3) := by kernel_rfl
theorem tfld58_1 : tfld Try.prog 58 1 = some (1, 3) := by kernel_rfl
theorem tfld58_2 : tfld Try.prog 58 2 = some (2, 5) := by kernel_rfl
theorem tsz59 : tsz Try.prog 59 = some 1 := by kernel_rfl
theorem tagg59 : tagg Try.prog 59 = some false := by kernel_rfl
theorem tbytes59 : tbytes Try.prog 59 = some 8 := by kernel_rfl
theorem tzero59 : tzero Try.prog 59 = some [.nilf] := by kernel_rfl
theorem tzv59 : tzv Try.prog 59 = some (.nilf) := by kernel_rfl
theorem tsz60 : tsz Try.prog 60 = some 1 := by kernel_rfl
theorem tagg60 : tagg Try.prog 60 = some false := by kernel_rfl
theorem tbytes60 : tbytes Try.prog 60 = some 8 := by kernel_rfl
theorem tzero60 : tzero Try.prog 60 = some [.nilf] := by kernel_rfl
theorem tzv60 : tzv Try.prog 60 = some (.nilf) := by kernel_rfl
theorem tsz70 : tsz Try.prog 70 = some 3 := by kernel_rfl
theorem tagg70 : tagg Try.prog 70 = some true := by kernel_rfl
theorem tarr70 : tarr Try.prog 70 = none := by kernel_rfl
theorem tbytes70 : tbytes Try.prog 70 = some 24 := by kernel_rfl
theorem tzero70 : tzero Try.prog 70 = some [.int .i64 0, .int .i64 0, .int .u8 0] := by kernel_rfl
theorem tzv70 : tzv Try.prog 70 = some (.agg [.int .i64 0, .int .i64 0, .int .u8 0]) := by kernel_rfl
theorem tplaces70 : tplaces Try.prog 70 = some [(0, 1), (1, 1), (2, 1)] := by kernel_rfl
theorem tfld70_0 : tfld Try.prog 70 0 = some (0, 3) := by kernel_rfl
theorem tfld70_1 : tfld Try.prog 70 1 = some (1, 3) := by kernel_rfl
theorem tfld70_2 : tfld Try.prog 70 2 = some (2, 5) := by kernel_rfl
theorem tsz72 : tsz Try.prog 72 = some 1 := by kernel_rfl
theorem tagg72 : tagg Try.prog 72 = some false := by kernel_rfl
theorem tbytes72 : tbytes Try.prog 72 = some 8 := by kernel_rfl
theorem tzero72 : tzero Try.prog 72 = some [.nilf] := by kernel_rfl
theorem tzv72 : tzv Try.prog 72 = some (.nilf) := by kernel_rfl
theorem tsz73 : tsz Try.prog 73 = some 1 := by kernel_rfl
theorem tagg73 : tagg Try.prog 73 = some false := by kernel_rfl
theorem tbytes73 : tbytes Try.prog 73 = some 8 := by kernel_rfl
theorem tzero73 : tzero Try.prog 73 = some [.nilf] := by kernel_rfl
theorem tzv73 : tzv Try.prog 73 = some (.nilf) := by kernel_rfl
theorem tsz78 : tsz Try.prog 78 = some 1 := by kernel_rfl
theorem tagg78 : tagg Try.prog 78 = some false := by kernel_rfl
theorem tslice78 : tslice Try.prog 78 = some 4 := by kernel_rfl
theorem tbytes78 : tbytes Try.prog 78 = some 24 := by kernel_rfl
theorem tzero78 : tzero Try.prog 78 = some [.nils] := by kernel_rfl
theorem tzv78 : tzv Try.prog 78 = some (.nils) := by kernel_rfl
theorem tsz80 : tsz Try.prog 80 = some 1 := by kernel_rfl
theorem tagg80 : tagg Try.prog 80 = some false := by kernel_rfl
theorem tint80 : tint Try.prog 80 = some .i8 := by kernel_rfl
theorem tund80 : (Try.prog.underlying 80).isSome = true := by kernel_rfl
theorem tbytes80 : tbytes Try.prog 80 = some 1 := by kernel_rfl
theorem tzero80 : tzero Try.prog 80 = some [.int .i8 0] := by kernel_rfl
theorem tzv80 : tzv Try.prog 80 = some (.int .i8 0) := by kernel_rfl
theorem tsz88 : tsz Try.prog 88 = some 2 := by kernel_rfl
theorem tagg88 : tagg Try.prog 88 = some true := by kernel_rfl
theorem tslice88 : tslice Try.prog 88 = none := by kernel_rfl
theorem tarr88 : tarr Try.prog 88 = some (2, 3) := by kernel_rfl
theorem tbytes88 : tbytes Try.prog 88 = some 16 := by kernel_rfl
theorem tzero88 : tzero Try.prog 88 = some [.int .i64 0, .int .i64 0] := by kernel_rfl
theorem tzv88 : tzv Try.prog 88 = some (.agg [.int .i64 0, .int .i64 0]) := by kernel_rfl
theorem tsz90 : tsz Try.prog 90 = some 5 := by kernel_rfl
theorem tagg90 : tagg Try.prog 90 = some true := by kernel_rfl
theorem tarr90 : tarr Try.prog 90 = none := by kernel_rfl
theorem tbytes90 : tbytes Try.prog 90 = some 40 := by kernel_rfl
theorem tzero90 : tzero Try.prog 90 = some [.int .i64 0, .int .i64 0, .int .i64 0, .int .i64 0, .int .i64 0] := by kernel_rfl
theorem tzv90 : tzv Try.prog 90 = some (.agg [.int .i64 0, .int .i64 0, .int .i64 0, .int .i64 0, .int .i64 0]) := by kernel_rfl
theorem tplaces90 : tplaces Try.prog 90 = some [(0, 1), (1, 1), (2, 1), (3, 1), (4, 1)] := by kernel_rfl
theorem tfld90_0 : tfld Try.prog 90 0 = some (0, 3) := by kernel_rfl
theorem tfld90_1 : tfld Try.prog 90 1 = some (1, 3) := by kernel_rfl
theorem tfld90_2 : tfld Try.prog 90 2 = some (2, 3) := by kernel_rfl
theorem tfld90_3 : tfld Try.prog 90 3 = some (3, 3) := by kernel_rfl
theorem tfld90_4 : tfld Try.prog 90 4 = some (4, 3) := by kernel_rfl
theorem tsz94 : tsz Try.prog 94 = some 1 := by kernel_rfl
theorem tagg94 : tagg Try.prog 94 = some false := by kernel_rfl
theorem tslice94 : tslice Try.prog 94 = some 32 := by kernel_rfl
theorem tbytes94 : tbytes Try.prog 94 = some 24 := by kernel_rfl
theorem tzero94 : tzero Try.prog 94 = some [.nils] := by kernel_rfl
theorem tzv94 : tzv Try.prog 94 = some (.nils) := by kernel_rfl
theorem tsz96 : tsz Try.prog 96 = some 5 := by kernel_rfl
theorem tagg96 : tagg Try.prog 96 = some true := by kernel_rfl
theorem tarr96 : tarr Try.prog 96 = none := by kernel_rfl
theorem tbytes96 : tbytes Try.prog 96 = some 40 := by kernel_rfl
theorem tzero96 : tzero Try.prog 96 = some [.int .i64 0, .int .i64 0, .int .i64 0, .int .i64 0, .int .i64 0] := by kernel_rfl
theorem tzv96 : tzv Try.prog 96 = some (.agg [.int .i64 0, .int .i64 0, .int .i64 0, .int .i64 0, .int .i64 0]) := by kernel_rfl
theorem tplaces96 : tplaces Try.prog 96 = some [(0, 1), (1, 1), (2, 1), (3, 1), (4, 1)] := by kernel_rfl
theorem tfld96_0 : tfld Try.prog 96 0 = some (0, 3) := by kernel_rfl
theorem tfld96_1 : tfld Try.prog 96 1 = some (1, 3) := by kernel_rfl
theorem tfld96_2 : tfld Try.prog 96 2 = some (2, 3) := by kernel_rfl
theorem tfld96_3 : tfld Try.prog 96 3 = some (3, 3) := by kernel_rfl
theorem tfld96_4 : tfld Try.prog 96 4 = some (4, 3) := by kernel_rfl
theorem tsz115 : tsz Try.prog 115 = some 1 := by kernel_rfl
theorem tagg115 : tagg Try.prog 115 = some false := by kernel_rfl
theorem tbytes115 : tbytes Try.prog 115 = some 8 := by kernel_rfl
theorem tzero115 : tzero Try.prog 115 = some [.nilp] := by kernel_rfl
theorem tzv115 : tzv Try.prog 115 = some (.nilp) := by kernel_rfl
theorem tsz119 : tsz Try.prog 119 = some 1 := by kernel_rfl
theorem tagg119 : tagg Try.prog 119 = some false := by kernel_rfl
theorem tbytes119 : tbytes Try.prog 119 = some 8 := by kernel_rfl
theorem tzero119 : tzero Try.prog 119 = some [.nilf] := by kernel_rfl
theorem tzv119 : tzv Try.prog 119 = some (.nilf) := by kernel_rfl
theorem tsz122 : tsz Try.prog 122 = some 2 := by kernel_rfl
theorem tagg122 : tagg Try.prog 122 = some true := by kernel_rfl
theorem tslice122 : tslice Try.prog 122 = none := by kernel_rfl
theorem tarr122 : tarr Try.prog 122 = some (2, 3) := by kernel_rfl
theorem tbytes122 : tbytes Try.prog 122 = some 16 := by kernel_rfl
theorem tzero122 : tzero Try.prog 122 = some [.int .i64 0, .int .i64 0] := by kernel_rfl
theorem tzv122 : tzv Try.prog 122 = some (.agg [.int .i64 0, .int .i64 0]) := by kernel_rfl
theorem tsz123 : tsz Try.prog 123 = some 1 := by kernel_rfl
theorem tagg123 : tagg Try.prog 123 = some false := by kernel_rfl
theorem tbytes123 : tbytes Try.prog 123 = some 8 := by kernel_rfl
theorem tzero123 : tzero Try.prog 123 = some [.nilf] := by kernel_rfl
theorem tzv123 : tzv Try.prog 123 = some (.nilf) := by kernel_rfl
theorem tsz125 : tsz Try.prog 125 = some 1 := by kernel_rfl
theorem tagg125 : tagg Try.prog 125 = some false := by kernel_rfl
theorem tbytes125 : tbytes Try.prog 125 = some 8 := by kernel_rfl
theorem tzero125 : tzero Try.prog 125 = some [.nilf] := by kernel_rfl
theorem tzv125 : tzv Try.prog 125 = some (.nilf) := by kernel_rfl
theorem tsz127 : tsz Try.prog 127 = some 1 := by kernel_rfl
theorem tagg127 : tagg Try.prog 127 = some false := by kernel_rfl
theorem tslice127 : tslice Try.prog 127 = some 129 := by kernel_rfl
theorem tbytes127 : tbytes Try.prog 127 = some 24 := by kernel_rfl
theorem tzero127 : tzero Try.prog 127 = some [.nils] := by kernel_rfl
theorem tzv127 : tzv Try.prog 127 = some (.nils) := by kernel_rfl
theorem tsz129 : tsz Try.prog 129 = some 1 := by kernel_rfl
theorem tagg129 : tagg Try.prog 129 = some false := by kernel_rfl
theorem tmap129 : tmap Try.prog 129 = some (3, 122) := by kernel_rfl
theorem tbytes129 : tbytes Try.prog 129 = some 8 := by kernel_rfl
theorem tzero129 : tzero Try.prog 129 = some [.nilm] := by kernel_rfl
theorem tzv129 : tzv Try.prog 129 = some (.nilm) := by kernel_rfl
theorem tsz130 : tsz Try.prog 130 = some 1 := by kernel_rfl
theorem tagg130 : tagg Try.prog 130 = some false := by kernel_rfl
theorem tbytes130 : tbytes Try.prog 130 = some 8 := by kernel_rfl
theorem tzero130 : tzero Try.prog 130 = some [.nilf] := by kernel_rfl
theorem tzv130 : tzv Try.prog 130 = some (.nilf) := by kernel_rfl
theorem tsz136 : tsz Try.prog 136 = some 1 := by kernel_rfl
theorem tagg136 : tagg Try.prog 136 = some false := by kernel_rfl
theorem tbytes136 : tbytes Try.prog 136 = some 8 := by kernel_rfl
theorem tzero136 : tzero Try.prog 136 = some [.nilf] := by kernel_rfl
theorem tzv136 : tzv Try.prog 136 = some (.nilf) := by kernel_rfl
theorem tsz140 : tsz Try.prog 140 = some 1 := by kernel_rfl
theorem tagg140 : tagg Try.prog 140 = some false := by kernel_rfl
theorem tbytes140 : tbytes Try.prog 140 = some 8 := by kernel_rfl
theorem tzero140 : tzero Try.prog 140 = some [.nilf] := by kernel_rfl
theorem tzv140 : tzv Try.prog 140 = some (.nilf) := by kernel_rfl
theorem tsz142 : tsz Try.prog 142 = some 7 := by kernel_rfl
theorem tagg142 : tagg Try.prog 142 = some true := by kernel_rfl
theorem tarr142 : tarr Try.prog 142 = none := by kernel_rfl
theorem tbytes142 : tbytes Try.prog 142 = some 72 := by kernel_rfl
theorem tzero142 : tzero Try.prog 142 = some [.nils, .int .i64 0, .int .i64 0, .int .i64 0, .int .i64 0, .int .i64 0, .nilm] := by kernel_rfl
theorem tzv142 : tzv Try.prog 142 = some (.agg [.nils, .int .i64 0, .int .i64 0, .int .i64 0, .int .i64 0, .int .i64 0, .nilm]) := by kernel_rfl
theorem tplaces142 : tplaces Try.prog 142 = some [(0, 6), (6, 1)] := by kernel_rfl
theorem tfld142_0 : tfld Try.prog 142 0 = some (0, 51) := by kernel_rfl
theorem tfld142_1 : tfld Try.prog 142 1 = some (6, 129) := by kernel_rfl
theorem tsz152 : tsz Try.prog 152 = some 1 := by kernel_rfl
theorem tagg152 : tagg Try.prog 152 = some false := by kernel_rfl
theorem tbytes152 : tbytes Try.prog 152 = some 8 := by kernel_rfl
theorem tzero152 : tzero Try.prog 152 = some [.nilf] := by kernel_rfl
theorem tzv152 : tzv Try.prog 152 = some (.nilf) := by kernel_rfl
theorem tsz154 : tsz Try.prog 154 = some 2 := by kernel_rfl
theorem tagg154 : tagg Try.prog 154 = some true := by kernel_rfl
theorem tarr154 : tarr Try.prog 154 = none := by kernel_rfl
theorem tbytes154 : tbytes Try.prog 154 = some 16 := by kernel_rfl
theorem tzero154 : tzero Try.prog 154 = some [.int .u8 0, .nilf] := by kernel_rfl
theorem tzv154 : tzv Try.prog 154 = some (.agg [.int .u8 0, .nilf]) := by kernel_rfl
theorem tplaces154 : tplaces Try.prog 154 = some [(0, 1), (1, 1)] := by kernel_rfl
theorem tfld154_0 : tfld Try.prog 154 0 = some (0, 5) := by kernel_rfl
theorem tfld154_1 : tfld Try.prog 154 1 = some (1, 152) := by kernel_rfl
theorem tsz155 : tsz Try.prog 155 = some 1 := by kernel_rfl
theorem tagg155 : tagg Try.prog 155 = some false := by kernel_rfl
theorem tslice155 : tslice Try.prog 155 = some 154 := by kernel_rfl
theorem tbytes155 : tbytes Try.prog 155 = some 24 := by kernel_rfl
theorem tzero155 : tzero Try.prog 155 = some [.nils] := by kernel_rfl
theorem tzv155 : tzv Try.prog 155 = some (.nils) := by kernel_rfl
attribute [go_sem] tsz3 tagg3 tint3 tund3 tbytes3 tzero3 tzv3 tsz4 tagg4 tbytes4 tzero4 tzv4 tsz5 tagg5 tint5 tund5 tbytes5 tzero5 tzv5 tsz11 tagg11 tbytes11 tzero11 tzv11 tsz12 tagg12 tint12 tund12 tbytes12 tzero12 tzv12 tsz17 tagg17 tbytes17 tzero17 tzv17 tsz18 tagg18 tarr18 tbytes18 tzero18 tzv18 tplaces18 tfld18_0 tsz22 tagg22 tslice22 tbytes22 tzero22 tzv22 tsz24 tagg24 tarr24 tbytes24 tzero24 tzv24 tplaces24 tfld24_0 tfld24_1 tsz26 tagg26 tarr26 tbytes26 tzero26 tzv26 tplaces26 tfld26_0 tfld26_1 tfld26_2 tsz28 tagg28 tslice28 tbytes28 tzero28 tzv28 tsz29 tagg29 tint29 tund29 tbytes29 tzero29 tzv29 tsz32 tagg32 tarr32 tbytes32 tzero32 tzv32 tplaces32 tfld32_0 tfld32_1 tsz34 tagg34 tarr34 tbytes34 tzero34 tzv34 tplaces34 tfld34_0 tfld34_1 tfld34_2 tsz37 tagg37 tslice37 tbytes37 tzero37 tzv37 tsz39 tagg39 tslice39 tbytes39 tzero39 tzv39 tsz42 tagg42 tarr42 tbytes42 tzero42 tzv42 tplaces42 tfld42_0 tfld42_1 tsz43 tagg43 tarr43 tbytes43 tzero43 tzv43 tplaces43 tfld43_0 tfld43_1 tsz46 tagg46 tarr46 tbytes46 tzero46 tzv46 tplaces46 tfld46_0 tfld46_1 tfld46_2 tfld46_3 tfld46_4 tfld46_5 tsz47 tagg47 tslice47 tbytes47 tzero47 tzv47 tsz48 tagg48 tint48 tund48 tbytes48 tzero48 tzv48 tsz49 tagg49 tslice49 tbytes49 tzero49 tzv49 tsz51 tagg51 tarr51 tbytes51 tzero51 tzv51 tplaces51 tfld51_0 tfld51_1 tfld51_2 tfld51_3 tfld51_4 tfld51_5 tsz54 tagg54 tslice54 tbytes54 tzero54 tzv54 tsz58 tagg58 tarr58 tbytes58 tzero58 tzv58 tplaces58 tfld58_0 tfld58_1 tfld58_2 tsz59 tagg59 tbytes59 tzero59 tzv59 tsz60 tagg60 tbytes60 tzero60 tzv60 tsz70 tagg70 tarr70 tbytes70 tzero70 tzv70 tplaces70 tfld70_0 tfld70_1 tfld70_2 tsz72 tagg72 tbytes72 tzero72 tzv72 tsz73 tagg73 tbytes73 tzero73 tzv73 tsz78 tagg78 tslice78 tbytes78 tzero78 tzv78 tsz80 tagg80 tint80 tund80 tbytes80 tzero80 tzv80 tsz88 tagg88 tslice88 tarr88 tbytes88 tzero88 tzv88 tsz90 tagg90 tarr90 tbytes90 tzero90 tzv90 tplaces90 tfld90_0 tfld90_1 tfld90_2 tfld90_3 tfld90_4 tsz94 tagg94 tslice94 tbytes94 tzero94 tzv94 tsz96 tagg96 tarr96 tbytes96 tzero96 tzv96 tplaces96 tfld96_0 tfld96_1 tfld96_2 tfld96_3 tfld96_4 tsz115 tagg115 tbytes115 tzero115 tzv115 tsz119 tagg119 tbytes119 tzero119 tzv119 tsz122 tagg122 tslice122 tarr122 tbytes122 tzero122 tzv122 tsz123 tagg123 tbytes123 tzero123 tzv123 tsz125 tagg125 tbytes125 tzero125 tzv125 tsz127 tagg127 tslice127 tbytes127 tzero127 tzv127 tsz129 tagg129 tmap129 tbytes129 tzero129 tzv129 tsz130 tagg130 tbytes130 tzero130 tzv130 tsz136 tagg136 tbytes136 tzero136 tzv136 tsz140 tagg140 tbytes140 tzero140 tzv140 tsz142 tagg142 tarr142 tbytes142 tzero142 tzv142 tplaces142 tfld142_0 tfld142_1 tsz152 tagg152 tbytes152 tzero152 tzv152 tsz154 tagg154 tarr154 tbytes154 tzero154 tzv154 tplaces154 tfld154_0 tfld154_1 tsz155 tagg155 tslice155 tbytes155 tzero155 tzv155
end Go.Am
