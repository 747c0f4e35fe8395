/- Parts Tab, RaA, RaB, RaC, RaD, RaE of the proof, one behind the other. No statement is proved here. -/
import Derived.Test.YtaofjkcenmnldaaK2
import Derived.Test.YtaofjkcenmnldaaProg
import Derived.KernelRfl
import Derived.Test.YtaofjkcenmnldaaK3
import Derived.Test.YtaofjkcenmnldaaK4
set_option linter.unusedVariables false -- all
set_option linter.unusedSimpArgs false
/- MADE BY A PROGRAM of ours (wip/tools/Tab): what the program's table says of the types that the walks meet. -/
namespace Go.Am
open Go.RowKit Go.Proofs
theorem tsz3 : tsz Try.prog 3 = some 1 := by kernel_rfl
theorem tagg3 : tagg Try.prog 3 = some false := by kernel_rfl
theorem tint3 : tint Try.prog 3 = some .i64 := by kernel_rfl
theorem tbytes3 : tbytes Try.prog 3 = some 8 := by kernel_rfl
theorem tzero3 : tzero Try.prog 3 = some [.int .i64 0] := by kernel_rfl
theorem tzv3 : tzv Try.prog 3 = some (.int .i64 0) := by kernel_rfl
theorem tsz4 : tsz Try.prog 4 = some 1 := by kernel_rfl
theorem tagg4 : tagg Try.prog 4 = some false := by kernel_rfl
theorem tbytes4 : tbytes Try.prog 4 = some 1 := by kernel_rfl
theorem tzero4 : tzero Try.prog 4 = some [.bool false] := by kernel_rfl
theorem tsz22 : tsz Try.prog 22 = some 1 := by kernel_rfl
theorem tagg22 : tagg Try.prog 22 = some false := by kernel_rfl
theorem tslice22 : tslice Try.prog 22 = some 33 := by kernel_rfl
theorem tsz24 : tsz Try.prog 24 = some 2 := by kernel_rfl
theorem tagg24 : tagg Try.prog 24 = some true := by kernel_rfl
theorem tarr24 : tarr Try.prog 24 = none := by kernel_rfl
theorem tzero24 : tzero Try.prog 24 = some [.nils, .int .i64 0] := by kernel_rfl
theorem tplaces24 : tplaces Try.prog 24 = some [(0, 1), (1, 1)] := by kernel_rfl
theorem tfld24_0 : tfld Try.prog 24 0 = some (0, 22) := by kernel_rfl
theorem tfld24_1 : tfld Try.prog 24 1 = some (1, 3) := by kernel_rfl
theorem tsz25 : tsz Try.prog 25 = some 1 := by kernel_rfl
theorem tagg25 : tagg Try.prog 25 = some false := by kernel_rfl
theorem tslice25 : tslice Try.prog 25 = some 69 := by kernel_rfl
theorem tsz26 : tsz Try.prog 26 = some 1 := by kernel_rfl
theorem tagg26 : tagg Try.prog 26 = some false := by kernel_rfl
theorem tslice26 : tslice Try.prog 26 = some 39 := by kernel_rfl
theorem tsz27 : tsz Try.prog 27 = some 3 := by kernel_rfl
theorem tagg27 : tagg Try.prog 27 = some true := by kernel_rfl
theorem tslice27 : tslice Try.prog 27 = none := by kernel_rfl
theorem tarr27 : tarr Try.prog 27 = some (3, 3) := by kernel_rfl
theorem tzero27 : tzero Try.prog 27 = some [.int .i64 0, .int .i64 0, .int .i64 0] := by kernel_rfl
theorem tsz29 : tsz Try.prog 29 = some 5 := by kernel_rfl
theorem tagg29 : tagg Try.prog 29 = some true := by kernel_rfl
theorem tzero29 : tzero Try.prog 29 = some [.nils, .nils, .int .i64 0, .int .i64 0, .int .i64 0] := by kernel_rfl
theorem tfld29_0 : tfld Try.prog 29 0 = some (0, 25) := by kernel_rfl
theorem tfld29_1 : tfld Try.prog 29 1 = some (1, 26) := by kernel_rfl
theorem tfld29_2 : tfld Try.prog 29 2 = some (2, 27) := by kernel_rfl
theorem tsz30 : tsz Try.prog 30 = some 1 := by kernel_rfl
theorem tagg30 : tagg Try.prog 30 = some false := by kernel_rfl
theorem tund30 : (Try.prog.underlying 30).isSome = true := by kernel_rfl
theorem tbytes30 : tbytes Try.prog 30 = some 2 := by kernel_rfl
theorem tzero30 : tzero Try.prog 30 = some [.int .u16 0] := by kernel_rfl
theorem tslice31 : tslice Try.prog 31 = some 30 := by kernel_rfl
theorem tsz33 : tsz Try.prog 33 = some 1 := by kernel_rfl
theorem tagg33 : tagg Try.prog 33 = some false := by kernel_rfl
theorem tslice33 : tslice Try.prog 33 = some 66 := by kernel_rfl
theorem tbytes33 : tbytes Try.prog 33 = some 24 := by kernel_rfl
theorem tzero33 : tzero Try.prog 33 = some [.nils] := by kernel_rfl
theorem tsz35 : tsz Try.prog 35 = some 1 := by kernel_rfl
theorem tagg35 : tagg Try.prog 35 = some false := by kernel_rfl
theorem tslice35 : tslice Try.prog 35 = some 3 := by kernel_rfl
theorem tzero35 : tzero Try.prog 35 = some [.nils] := by kernel_rfl
theorem tsz37 : tsz Try.prog 37 = some 2 := by kernel_rfl
theorem tagg37 : tagg Try.prog 37 = some true := by kernel_rfl
theorem tarr37 : tarr Try.prog 37 = none := by kernel_rfl
theorem tzero37 : tzero Try.prog 37 = some [.int .i64 0, .int .i64 0] := by kernel_rfl
theorem tplaces37 : tplaces Try.prog 37 = some [(0, 1), (1, 1)] := by kernel_rfl
theorem tfld37_0 : tfld Try.prog 37 0 = some (0, 3) := by kernel_rfl
theorem tfld37_1 : tfld Try.prog 37 1 = some (1, 3) := by kernel_rfl
theorem tsz39 : tsz Try.prog 39 = some 4 := by kernel_rfl
theorem tagg39 : tagg Try.prog 39 = some true := by kernel_rfl
theorem tbytes39 : tbytes Try.prog 39 = some 48 := by kernel_rfl
theorem tzero39 : tzero Try.prog 39 = some [.nils, .int .i64 0, .int .i64 0, .int .i64 0] := by kernel_rfl
theorem tfld39_0 : tfld Try.prog 39 0 = some (0, 35) := by kernel_rfl
theorem tfld39_1 : tfld Try.prog 39 1 = some (1, 3) := by kernel_rfl
theorem tfld39_2 : tfld Try.prog 39 2 = some (2, 37) := by kernel_rfl
theorem tsz45 : tsz Try.prog 45 = some 1 := by kernel_rfl
theorem tagg45 : tagg Try.prog 45 = some false := by kernel_rfl
theorem tslice45 : tslice Try.prog 45 = some 84 := by kernel_rfl
theorem tsz47 : tsz Try.prog 47 = some 2 := by kernel_rfl
theorem tagg47 : tagg Try.prog 47 = some true := by kernel_rfl
theorem tarr47 : tarr Try.prog 47 = none := by kernel_rfl
theorem tzero47 : tzero Try.prog 47 = some [.nils, .int .i64 0] := by kernel_rfl
theorem tplaces47 : tplaces Try.prog 47 = some [(0, 1), (1, 1)] := by kernel_rfl
theorem tfld47_0 : tfld Try.prog 47 0 = some (0, 45) := by kernel_rfl
theorem tfld47_1 : tfld Try.prog 47 1 = some (1, 3) := by kernel_rfl
theorem tslice52 : tslice Try.prog 52 = some 61 := by kernel_rfl
theorem tsz55 : tsz Try.prog 55 = some 1 := by kernel_rfl
theorem tagg55 : tagg Try.prog 55 = some false := by kernel_rfl
theorem tslice55 : tslice Try.prog 55 = some 71 := by kernel_rfl
theorem tsz56 : tsz Try.prog 56 = some 1 := by kernel_rfl
theorem tagg56 : tagg Try.prog 56 = some false := by kernel_rfl
theorem tslice56 : tslice Try.prog 56 = some 73 := by kernel_rfl
theorem tsz58 : tsz Try.prog 58 = some 5 := by kernel_rfl
theorem tagg58 : tagg Try.prog 58 = some true := by kernel_rfl
theorem tarr58 : tarr Try.prog 58 = none := by kernel_rfl
theorem tzero58 : tzero Try.prog 58 = some [.nils, .nils, .int .i64 0, .int .i64 0, .int .i64 0] := by kernel_rfl
theorem tplaces58 : tplaces Try.prog 58 = some [(0, 1), (1, 1), (2, 3)] := by kernel_rfl
theorem tfld58_0 : tfld Try.prog 58 0 = some (0, 55) := by kernel_rfl
theorem tfld58_1 : tfld Try.prog 58 1 = some (1, 56) := by kernel_rfl
theorem tfld58_2 : tfld Try.prog 58 2 = some (2, 27) := by kernel_rfl
theorem tsz61 : tsz Try.prog 61 = some 2 := by kernel_rfl
theorem tagg61 : tagg Try.prog 61 = some true := by kernel_rfl
theorem tarr61 : tarr Try.prog 61 = none := by kernel_rfl
theorem tbytes61 : tbytes Try.prog 61 = some 16 := by kernel_rfl
theorem tzero61 : tzero Try.prog 61 = some [.int .i64 0, .int .i64 0] := by kernel_rfl
theorem tplaces61 : tplaces Try.prog 61 = some [(0, 1), (1, 1)] := by kernel_rfl
theorem tfld61_0 : tfld Try.prog 61 0 = some (0, 3) := by kernel_rfl
theorem tfld61_1 : tfld Try.prog 61 1 = some (1, 3) := by kernel_rfl
theorem tsz64 : tsz Try.prog 64 = some 2 := by kernel_rfl
theorem tagg64 : tagg Try.prog 64 = some true := by kernel_rfl
theorem tarr64 : tarr Try.prog 64 = none := by kernel_rfl
theorem tzero64 : tzero Try.prog 64 = some [.int .i64 0, .int .i64 0] := by kernel_rfl
theorem tplaces64 : tplaces Try.prog 64 = some [(0, 1), (1, 1)] := by kernel_rfl
theorem tfld64_0 : tfld Try.prog 64 0 = some (0, 3) := by kernel_rfl
theorem tfld64_1 : tfld Try.prog 64 1 = some (1, 3) := by kernel_rfl
theorem tsz66 : tsz Try.prog 66 = some 8 := by kernel_rfl
theorem tagg66 : tagg Try.prog 66 = some true := by kernel_rfl
theorem tbytes66 : tbytes Try.prog 66 = some 64 := by kernel_rfl
theorem tzero66 : tzero Try.prog 66 = some [.int .i64 0, .int .i64 0, .int .i64 0, .int .i64 0, .int .i64 0, .int .i64 0, .int .i64 0, .int .i64 0] := by kernel_rfl
theorem tfld66_0 : tfld Try.prog 66 0 = some (0, 3) := by kernel_rfl
theorem tfld66_1 : tfld Try.prog 66 1 = some (1, 3) := by kernel_rfl
theorem tfld66_2 : tfld Try.prog 66 2 = some (2, 64) := by kernel_rfl
theorem tfld66_3 : tfld Try.prog 66 3 = some (4, 64) := by kernel_rfl
theorem tfld66_4 : tfld Try.prog 66 4 = some (6, 64) := by kernel_rfl
theorem tsz69 : tsz Try.prog 69 = some 4 := by kernel_rfl
theorem tagg69 : tagg Try.prog 69 = some true := by kernel_rfl
theorem tzero69 : tzero Try.prog 69 = some [.int .i64 0, .int .i64 0, .int .i64 0, .bool false] := by kernel_rfl
theorem tfld69_0 : tfld Try.prog 69 0 = some (0, 3) := by kernel_rfl
theorem tfld69_1 : tfld Try.prog 69 1 = some (1, 3) := by kernel_rfl
theorem tfld69_2 : tfld Try.prog 69 2 = some (2, 3) := by kernel_rfl
theorem tfld69_3 : tfld Try.prog 69 3 = some (3, 4) := by kernel_rfl
theorem tsz71 : tsz Try.prog 71 = some 4 := by kernel_rfl
theorem tagg71 : tagg Try.prog 71 = some true := by kernel_rfl
theorem tarr71 : tarr Try.prog 71 = none := by kernel_rfl
theorem tbytes71 : tbytes Try.prog 71 = some 32 := by kernel_rfl
theorem tzero71 : tzero Try.prog 71 = some [.int .i64 0, .int .i64 0, .int .i64 0, .bool false] := by kernel_rfl
theorem tplaces71 : tplaces Try.prog 71 = some [(0, 1), (1, 1), (2, 1), (3, 1)] := by kernel_rfl
theorem tfld71_0 : tfld Try.prog 71 0 = some (0, 3) := by kernel_rfl
theorem tfld71_1 : tfld Try.prog 71 1 = some (1, 3) := by kernel_rfl
theorem tfld71_2 : tfld Try.prog 71 2 = some (2, 3) := by kernel_rfl
theorem tsz73 : tsz Try.prog 73 = some 4 := by kernel_rfl
theorem tagg73 : tagg Try.prog 73 = some true := by kernel_rfl
theorem tarr73 : tarr Try.prog 73 = none := by kernel_rfl
theorem tbytes73 : tbytes Try.prog 73 = some 48 := by kernel_rfl
theorem tzero73 : tzero Try.prog 73 = some [.nils, .int .i64 0, .int .i64 0, .int .i64 0] := by kernel_rfl
theorem tplaces73 : tplaces Try.prog 73 = some [(0, 1), (1, 1), (2, 2)] := by kernel_rfl
theorem tfld73_0 : tfld Try.prog 73 0 = some (0, 35) := by kernel_rfl
theorem tfld73_1 : tfld Try.prog 73 1 = some (1, 3) := by kernel_rfl
theorem tfld73_2 : tfld Try.prog 73 2 = some (2, 61) := by kernel_rfl
theorem tsz75 : tsz Try.prog 75 = some 1 := by kernel_rfl
theorem tagg75 : tagg Try.prog 75 = some false := by kernel_rfl
theorem tsz77 : tsz Try.prog 77 = some 2 := by kernel_rfl
theorem tagg77 : tagg Try.prog 77 = some true := by kernel_rfl
theorem tarr77 : tarr Try.prog 77 = none := by kernel_rfl
theorem tzero77 : tzero Try.prog 77 = some [.int .i64 0, .int .i64 0] := by kernel_rfl
theorem tplaces77 : tplaces Try.prog 77 = some [(0, 1), (1, 1)] := by kernel_rfl
theorem tfld77_0 : tfld Try.prog 77 0 = some (0, 3) := by kernel_rfl
theorem tfld77_1 : tfld Try.prog 77 1 = some (1, 3) := by kernel_rfl
theorem tsz79 : tsz Try.prog 79 = some 8 := by kernel_rfl
theorem tagg79 : tagg Try.prog 79 = some true := by kernel_rfl
theorem tarr79 : tarr Try.prog 79 = none := by kernel_rfl
theorem tbytes79 : tbytes Try.prog 79 = some 64 := by kernel_rfl
theorem tzero79 : tzero Try.prog 79 = some [.int .i64 0, .int .i64 0, .int .i64 0, .int .i64 0, .int .i64 0, .int .i64 0, .int .i64 0, .int .i64 0] := by kernel_rfl
theorem tplaces79 : tplaces Try.prog 79 = some [(0, 1), (1, 1), (2, 2), (4, 2), (6, 2)] := by kernel_rfl
theorem tfld79_0 : tfld Try.prog 79 0 = some (0, 3) := by kernel_rfl
theorem tfld79_1 : tfld Try.prog 79 1 = some (1, 3) := by kernel_rfl
theorem tfld79_2 : tfld Try.prog 79 2 = some (2, 77) := by kernel_rfl
theorem tfld79_3 : tfld Try.prog 79 3 = some (4, 77) := by kernel_rfl
theorem tfld79_4 : tfld Try.prog 79 4 = some (6, 77) := by kernel_rfl
theorem tsz81 : tsz Try.prog 81 = some 4 := by kernel_rfl
theorem tagg81 : tagg Try.prog 81 = some true := by kernel_rfl
theorem tarr81 : tarr Try.prog 81 = none := by kernel_rfl
theorem tzero81 : tzero Try.prog 81 = some [.nils, .int .i64 0, .int .i64 0, .nilf] := by kernel_rfl
theorem tplaces81 : tplaces Try.prog 81 = some [(0, 2), (2, 1), (3, 1)] := by kernel_rfl
theorem tfld81_0 : tfld Try.prog 81 0 = some (0, 47) := by kernel_rfl
theorem tfld81_1 : tfld Try.prog 81 1 = some (2, 3) := by kernel_rfl
theorem tfld81_2 : tfld Try.prog 81 2 = some (3, 75) := by kernel_rfl
theorem tsz84 : tsz Try.prog 84 = some 1 := by kernel_rfl
theorem tagg84 : tagg Try.prog 84 = some false := by kernel_rfl
theorem tslice84 : tslice Try.prog 84 = some 79 := by kernel_rfl
theorem tbytes84 : tbytes Try.prog 84 = some 24 := by kernel_rfl
theorem tzero84 : tzero Try.prog 84 = some [.nils] := by kernel_rfl
theorem tslice86 : tslice Try.prog 86 = some 4 := by kernel_rfl
theorem tslice87 : tslice Try.prog 87 = some 90 := by kernel_rfl
theorem tsz90 : tsz Try.prog 90 = some 2 := by kernel_rfl
theorem tagg90 : tagg Try.prog 90 = some true := by kernel_rfl
theorem tarr90 : tarr Try.prog 90 = none := by kernel_rfl
theorem tbytes90 : tbytes Try.prog 90 = some 32 := by kernel_rfl
theorem tzero90 : tzero Try.prog 90 = some [.int .i64 0, .nils] := by kernel_rfl
theorem tplaces90 : tplaces Try.prog 90 = some [(0, 1), (1, 1)] := by kernel_rfl
theorem tfld90_0 : tfld Try.prog 90 0 = some (0, 3) := by kernel_rfl
theorem tfld90_1 : tfld Try.prog 90 1 = some (1, 35) := by kernel_rfl
theorem tslice92 : tslice Try.prog 92 = some 97 := by kernel_rfl
theorem tsz97 : tsz Try.prog 97 = some 3 := by kernel_rfl
theorem tagg97 : tagg Try.prog 97 = some true := by kernel_rfl
theorem tarr97 : tarr Try.prog 97 = none := by kernel_rfl
theorem tbytes97 : tbytes Try.prog 97 = some 24 := by kernel_rfl
theorem tzero97 : tzero Try.prog 97 = some [.int .i64 0, .int .i64 0, .int .i64 0] := by kernel_rfl
theorem tplaces97 : tplaces Try.prog 97 = some [(0, 1), (1, 1), (2, 1)] := by kernel_rfl
theorem tfld97_0 : tfld Try.prog 97 0 = some (0, 3) := by kernel_rfl
theorem tfld97_1 : tfld Try.prog 97 1 = some (1, 3) := by kernel_rfl
theorem tfld97_2 : tfld Try.prog 97 2 = some (2, 3) := by kernel_rfl
theorem tsz101 : tsz Try.prog 101 = some 6 := by kernel_rfl
theorem tagg101 : tagg Try.prog 101 = some true := by kernel_rfl
theorem tarr101 : tarr Try.prog 101 = none := by kernel_rfl
theorem tzero101 : tzero Try.prog 101 = some [.nils, .nils, .int .i64 0, .int .i64 0, .int .i64 0, .nils] := by kernel_rfl
theorem tplaces101 : tplaces Try.prog 101 = some [(0, 5), (5, 1)] := by kernel_rfl
theorem tfld101_0 : tfld Try.prog 101 0 = some (0, 58) := by kernel_rfl
theorem tfld101_1 : tfld Try.prog 101 1 = some (5, 35) := by kernel_rfl
theorem tsz108 : tsz Try.prog 108 = some 3 := by kernel_rfl
theorem tagg108 : tagg Try.prog 108 = some true := by kernel_rfl
theorem tarr108 : tarr Try.prog 108 = none := by kernel_rfl
theorem tzero108 : tzero Try.prog 108 = some [.int .i64 0, .int .i64 0, .int .i64 0] := by kernel_rfl
theorem tplaces108 : tplaces Try.prog 108 = some [(0, 1), (1, 1), (2, 1)] := by kernel_rfl
theorem tfld108_0 : tfld Try.prog 108 0 = some (0, 3) := by kernel_rfl
theorem tfld108_1 : tfld Try.prog 108 1 = some (1, 3) := by kernel_rfl
theorem tfld108_2 : tfld Try.prog 108 2 = some (2, 3) := by kernel_rfl
theorem tsz111 : tsz Try.prog 111 = some 2 := by kernel_rfl
theorem tagg111 : tagg Try.prog 111 = some true := by kernel_rfl
theorem tarr111 : tarr Try.prog 111 = none := by kernel_rfl
theorem tzero111 : tzero Try.prog 111 = some [.int .i64 0, .nils] := by kernel_rfl
theorem tplaces111 : tplaces Try.prog 111 = some [(0, 1), (1, 1)] := by kernel_rfl
theorem tfld111_1 : tfld Try.prog 111 1 = some (1, 35) := by kernel_rfl
theorem tslice117 : tslice Try.prog 117 = none := by kernel_rfl
theorem tarr117 : tarr Try.prog 117 = some (3, 30) := by kernel_rfl
theorem tzero117 : tzero Try.prog 117 = some [.int .u16 0, .int .u16 0, .int .u16 0] := by kernel_rfl
theorem tsz120 : tsz Try.prog 120 = some 1 := by kernel_rfl
theorem tagg120 : tagg Try.prog 120 = some false := by kernel_rfl
theorem tsz122 : tsz Try.prog 122 = some 1 := by kernel_rfl
theorem tagg122 : tagg Try.prog 122 = some false := by kernel_rfl
theorem tsz129 : tsz Try.prog 129 = some 1 := by kernel_rfl
theorem tagg129 : tagg Try.prog 129 = some false := by kernel_rfl
theorem tsz130 : tsz Try.prog 130 = some 1 := by kernel_rfl
theorem tagg130 : tagg Try.prog 130 = some false := by kernel_rfl
theorem tsz131 : tsz Try.prog 131 = some 1 := by kernel_rfl
theorem tagg131 : tagg Try.prog 131 = some false := by kernel_rfl
theorem tmap131 : tmap Try.prog 131 = some (135, 3) := by kernel_rfl
theorem tzero131 : tzero Try.prog 131 = some [.nilm] := by kernel_rfl
theorem tsz132 : tsz Try.prog 132 = some 1 := by kernel_rfl
theorem tagg132 : tagg Try.prog 132 = some false := by kernel_rfl
theorem tzero132 : tzero Try.prog 132 = some [.nilf] := by kernel_rfl
theorem tsz133 : tsz Try.prog 133 = some 1 := by kernel_rfl
theorem tagg133 : tagg Try.prog 133 = some false := by kernel_rfl
theorem tzero133 : tzero Try.prog 133 = some [.nilf] := by kernel_rfl
theorem tsz135 : tsz Try.prog 135 = some 2 := by kernel_rfl
theorem tagg135 : tagg Try.prog 135 = some true := by kernel_rfl
theorem tarr135 : tarr Try.prog 135 = none := by kernel_rfl
theorem tzero135 : tzero Try.prog 135 = some [.int .i64 0, .int .i64 0] := by kernel_rfl
theorem tplaces135 : tplaces Try.prog 135 = some [(0, 1), (1, 1)] := by kernel_rfl
theorem tfld135_0 : tfld Try.prog 135 0 = some (0, 3) := by kernel_rfl
theorem tfld135_1 : tfld Try.prog 135 1 = some (1, 3) := by kernel_rfl
theorem tslice142 : tslice Try.prog 142 = none := by kernel_rfl
theorem tarr142 : tarr Try.prog 142 = some (12, 4) := by kernel_rfl
theorem tzero142 : tzero Try.prog 142 = some [.bool false, .bool false, .bool false, .bool false, .bool false, .bool false, .bool false, .bool false, .bool false, .bool false, .bool false, .bool false] := by kernel_rfl
attribute [go_sem] tsz3 tagg3 tint3 tbytes3 tzero3 tzv3 tsz4 tagg4 tbytes4 tzero4 tsz22 tagg22 tslice22 tsz24 tagg24 tarr24 tzero24 tplaces24 tfld24_0 tfld24_1 tsz25 tagg25 tslice25 tsz26 tagg26 tslice26 tsz27 tagg27 tslice27 tarr27 tzero27 tsz29 tagg29 tzero29 tfld29_0 tfld29_1 tfld29_2 tsz30 tagg30 tund30 tbytes30 tzero30 tslice31 tsz33 tagg33 tslice33 tbytes33 tzero33 tsz35 tagg35 tslice35 tzero35 tsz37 tagg37 tarr37 tzero37 tplaces37 tfld37_0 tfld37_1 tsz39 tagg39 tbytes39 tzero39 tfld39_0 tfld39_1 tfld39_2 tsz45 tagg45 tslice45 tsz47 tagg47 tarr47 tzero47 tplaces47 tfld47_0 tfld47_1 tslice52 tsz55 tagg55 tslice55 tsz56 tagg56 tslice56 tsz58 tagg58 tarr58 tzero58 tplaces58 tfld58_0 tfld58_1 tfld58_2 tsz61 tagg61 tarr61 tbytes61 tzero61 tplaces61 tfld61_0 tfld61_1 tsz64 tagg64 tarr64 tzero64 tplaces64 tfld64_0 tfld64_1 tsz66 tagg66 tbytes66 tzero66 tfld66_0 tfld66_1 tfld66_2 tfld66_3 tfld66_4 tsz69 tagg69 tzero69 tfld69_0 tfld69_1 tfld69_2 tfld69_3 tsz71 tagg71 tarr71 tbytes71 tzero71 tplaces71 tfld71_0 tfld71_1 tfld71_2 tsz73 tagg73 tarr73 tbytes73 tzero73 tplaces73 tfld73_0 tfld73_1 tfld73_2 tsz75 tagg75 tsz77 tagg77 tarr77 tzero77 tplaces77 tfld77_0 tfld77_1 tsz79 tagg79 tarr79 tbytes79 tzero79 tplaces79 tfld79_0 tfld79_1 tfld79_2 tfld79_3 tfld79_4 tsz81 tagg81 tarr81 tzero81 tplaces81 tfld81_0 tfld81_1 tfld81_2 tsz84 tagg84 tslice84 tbytes84 tzero84 tslice86 tslice87 tsz90 tagg90 tarr90 tbytes90 tzero90 tplaces90 tfld90_0 tfld90_1 tslice92 tsz97 tagg97 tarr97 tbytes97 tzero97 tplaces97 tfld97_0 tfld97_1 tfld97_2 tsz101 tagg101 tarr101 tzero101 tplaces101 tfld101_0 tfld101_1 tsz108 tagg108 tarr108 tzero108 tplaces108 tfld108_0 tfld108_1 tfld108_2 tsz111 tagg111 tarr111 tzero111 tplaces111 tfld111_1 tslice117 tarr117 tzero117 tsz120 tagg120 tsz122 tagg122 tsz129 tagg129 tsz130 tagg130 tsz131 tagg131 tmap131 tzero131 tsz132 tagg132 tzero132 tsz133 tagg133 tzero133 tsz135 tagg135 tarr135 tzero135 tplaces135 tfld135_0 tfld135_1 tslice142 tarr142 tzero142
end Go.Am

/- Contracts of the slope functions: structs, small ones. -/
namespace Go.Am
open Go.RowKit Go.Proofs
attribute [local irreducible] AWP CallS Kt goK CallK stepK evOps SemF SemY Imp
set_option maxRecDepth 4000
set_option linter.unusedSimpArgs false
set_option linter.unusedVariables false
set_option maxHeartbeats 3200000
section
variable {P : Program} {t : TypeId} {K : AV → Prop} {k1 k2 : IntKind} {a b c d : Int}
theorem bin_agg2 (h : tkb P t = some [false, false]) : binK P .eql t (.agg [.int k1 a, .int k2 b]) (.agg [.int k1 c, .int k2 d]) K = K (.bool (decide (a = c ∧ b = d))) := by
  have hs : scalEq [.int k1 a, .int k2 b] [.int k1 c, .int k2 d] = some (decide (a = c ∧ b = d)) := by simp [scalEq, Bool.decide_and]
  simp only [binK, hs, eq_true (eqOK (P := P) t), List.map_cons, List.map_nil, kindB, h, true_and]
end
theorem tkb61 : tkb Try.prog 61 = some [false, false] := by kernel_rfl
theorem tkb135 : tkb Try.prog 135 = some [false, false] := by kernel_rfl
theorem eq61 {K : AV → Prop} {a b c d : Int} : binK Try.prog .eql 61 (.agg [.int .i64 a, .int .i64 b]) (.agg [.int .i64 c, .int .i64 d]) K = K (.bool (decide (a = c ∧ b = d))) := bin_agg2 tkb61
attribute [go_sem] eq61
theorem l0_fn {p : Nat → Bool} {f : FuncId} : live0 p (.fn (.func f) [] []) = true := rfl
attribute [go_sem] l0_fn
section
variable {α : Type} {enc : α → List AV} {sz : Nat} {l : List α} {d : α} {P : Program} {t : TypeId}
theorem ld_recs (ht : tagg P t = some true) (hs : tsz P t = some sz) (he : ∀ a, (enc a).length = sz) (hz : 0 < sz) {i : Nat} {K : AV → Prop} : loadK P t (recs enc l) (i * sz) K = (i < l.length ∧ K (.agg (enc (l.getD i d)))) := by
  simp only [loadK, ht, hs, recs_length he]
  by_cases hi : i < l.length
  · have : i * sz + sz ≤ l.length * sz := by
      rw [show i * sz + sz = (i + 1) * sz by rw [Nat.add_mul, Nat.one_mul]]; exact Nat.mul_le_mul_right _ hi
    rw [recs_window (d := d) he hi]
    simp [this, hi]
  · have : ¬ i * sz + sz ≤ l.length * sz := by
      intro h
      rw [show i * sz + sz = (i + 1) * sz by rw [Nat.add_mul, Nat.one_mul]] at h
      have := Nat.le_of_mul_le_mul_right h hz
      omega
    simp [this, hi]
theorem nth_recs (he : ∀ a, (enc a).length = sz) {i o : Nat} (ho : o < sz) {K : AV → Prop} : optK (nth (recs enc l) (i * sz + o)) K = (i < l.length ∧ optK (nth (enc (l.getD i d)) o) K) := by
  by_cases hi : i < l.length
  · rw [recs_nth (d := d) he hi ho]; simp [hi]
  · have : nth (recs enc l) (i * sz + o) = none := by
      rw [← nth_is, List.getElem?_eq_none]
      rw [recs_length he]
      have := Nat.mul_le_mul_right sz (Nat.le_of_not_lt hi)
      omega
    simp [this, hi, optK]
theorem ld_recsub {n o : Nat} (ht : tagg P t = some true) (hs : tsz P t = some n) (he : ∀ a, (enc a).length = sz) (hn : 0 < n) (ho : o + n ≤ sz) {i : Nat} {K : AV → Prop} : loadK P t (recs enc l) (i * sz + o) K = (i < l.length ∧ K (.agg (window (enc (l.getD i d)) o n))) := by
  simp only [loadK, ht, hs, recs_length he]
  by_cases hi : i < l.length
  · have h1 : i * sz + sz ≤ l.length * sz := by
      rw [show i * sz + sz = (i + 1) * sz by rw [Nat.add_mul, Nat.one_mul]]; exact Nat.mul_le_mul_right _ hi
    have h2 : window (recs enc l) (i * sz + o) n = window (enc (l.getD i d)) o n := by
      simp only [window]
      rw [← List.drop_drop, recs_at (d := d) he hi, List.drop_append_of_le_length (by rw [he]; omega), List.take_append_of_le_length (by rw [List.length_drop, he]; omega)]
    rw [h2]
    simp [show i * sz + o + n ≤ l.length * sz by omega, hi]
  · have : ¬ i * sz + o + n ≤ l.length * sz := by
      have := Nat.mul_le_mul_right sz (Nat.le_of_not_lt hi)
      omega
    simp [this, hi]
end
theorem cond_b {b : Bool} {A B : Prop} (h1 : b = true → A) (h2 : b = false → B) : condK (.bool b) A B := by
  cases b
  · exact h2 rfl
  · exact h1 rfl
structure Bed where
  drive : Int
  normal : Int
  f1 : Int
  f2 : Int
  c1 : Int
  c2 : Int
  w1 : Int
  w2 : Int
structure Reals where
  fr : Int
  co : Int
  wa : Int
structure Parc where
  worth : Int
  price : Int
  people : Int
  ins : Bool
structure Slid where
  way : List Int
  rate : Int
  lo : Int
  hi : Int
instance : Inhabited Bed := ⟨⟨0, 0, 0, 0, 0, 0, 0, 0⟩⟩
instance : Inhabited Reals := ⟨⟨0, 0, 0⟩⟩
instance : Inhabited Parc := ⟨⟨0, 0, 0, false⟩⟩
instance : Inhabited Slid := ⟨⟨[], 0, 0, 0⟩⟩
def bedC (b : Bed) : List AV := [.int .i64 b.drive, .int .i64 b.normal, .int .i64 b.f1, .int .i64 b.f2, .int .i64 b.c1, .int .i64 b.c2, .int .i64 b.w1, .int .i64 b.w2]
def realC (x : Reals) : List AV := [.int .i64 x.fr, .int .i64 x.co, .int .i64 x.wa]
def parcC (x : Parc) : List AV := [.int .i64 x.worth, .int .i64 x.price, .int .i64 x.people, .bool x.ins]
def slidC (x : Slid) : List AV := [sl x.way, .int .i64 x.rate, .int .i64 x.lo, .int .i64 x.hi]
def rngC (r : Int × Int) : List AV := [.int .i64 r.1, .int .i64 r.2]
def surfC (u : Int × List Int) : List AV := [.int .i64 u.1, sl u.2]
def slB (l : List Bed) : AV := .psl false l.length (recs bedC l)
def slRe (l : List Reals) : AV := .psl false l.length (recs realC l)
def slP (l : List Parc) : AV := .psl false l.length (recs parcC l)
def slS (l : List Slid) : AV := .psl false l.length (recs slidC l)
def slRg (l : List (Int × Int)) : AV := .psl false l.length (recs rngC l)
/-- Columns. -/
def colC (l : List (List Bed)) : List AV := l.map slB
def slC (l : List (List Bed)) : AV := .psl false l.length (colC l)
structure Slope where
  cols : List (List Bed)
  least : Int
def slopeC (s : Slope) : List AV := [slC s.cols, .int .i64 s.least]
structure Valley where
  parcels : List Parc
  slides : List Slid
  s0 : Int
  s1 : Int
  s2 : Int
def valC (v : Valley) : List AV := [slP v.parcels, slS v.slides, .int .i64 v.s0, .int .i64 v.s1, .int .i64 v.s2]
attribute [go_sem] List.append_eq bedC realC parcC slidC rngC surfC slB slRe slP slS slRg slC slopeC valC
theorem colC_length {l : List (List Bed)} : (colC l).length = l.length := by simp [colC]
theorem colC_nil : colC [] = [] := rfl
theorem colC_snoc {l : List (List Bed)} {r : List Bed} : colC (l ++ [r]) = colC l ++ [slB r] := by simp [colC]
theorem pl_col {l : List (List Bed)} : pureL (colC l) = True := by
  simp only [pureL, colC, List.mem_map, eq_iff_iff, iff_true]
  rintro _ ⟨a, _, rfl⟩; rfl
theorem lv_col {l : List (List Bed)} {p : Nat → Bool} : (colC l).all (live2 p) = true := by
  simp only [colC, List.all_map, List.all_eq_true]
  intro z _; rfl
theorem nth_col {l : List (List Bed)} {j : Nat} {K : AV → Prop} : optK (nth (colC l) j) K = (j < l.length ∧ K (.psl false (l.getD j []).length (recs bedC (l.getD j [])))) := by
  rw [← nth_is]
  simp only [colC, List.getElem?_map]
  by_cases h : j < l.length
  · simp [h, optK, List.getD_eq_getElem?_getD, slB]
  · simp [h, optK]
attribute [go_sem] colC_length colC_nil pl_col lv_col nth_col
theorem pl_Bd {l : List (Bed)} : pureL (recs bedC l) = True := eq_true (recs_pure fun s => by simp [pureL, bedC, cellPure, sl])
theorem lv_Bd {l : List (Bed)} {p : Nat → Bool} : (recs bedC l).all (live2 p) = true := recs_live fun s => by simp [pureL, bedC, cellPure, sl]
theorem len_Bd {l : List (Bed)} : (recs bedC l).length = l.length * 8 := recs_length fun _ => rfl
theorem ld_Bd66 {l : List (Bed)} {i : Nat} {K : AV → Prop} : loadK Try.prog 66 (recs bedC l) (i * 8) K = (i < l.length ∧ K (.agg (bedC (l.getD i default)))) := ld_recs tagg66 tsz66 (fun _ => rfl) (by omega)
theorem ld_Bd79 {l : List (Bed)} {i : Nat} {K : AV → Prop} : loadK Try.prog 79 (recs bedC l) (i * 8) K = (i < l.length ∧ K (.agg (bedC (l.getD i default)))) := ld_recs tagg79 tsz79 (fun _ => rfl) (by omega)
theorem ld_Bd64_2 {l : List (Bed)} {i : Nat} {K : AV → Prop} : loadK Try.prog 64 (recs bedC l) (i * 8 + 2) K = (i < l.length ∧ K (.agg [.int .i64 (l.getD i default).f1, .int .i64 (l.getD i default).f2])) := ld_recsub (sz := 8) (n := 2) (o := 2) tagg64 tsz64 (fun _ => rfl) (by omega) (by omega)
theorem nth_Bd7 {l : List (Bed)} {i : Nat} {K : AV → Prop} : optK (nth (recs bedC l) (i * 8 + 7)) K = (i < l.length ∧ K (.int .i64 (l.getD i default).w2)) := nth_recs (sz := 8) (o := 7) (fun _ => rfl) (by omega)
attribute [go_sem] pl_Bd lv_Bd len_Bd nth_Bd7
attribute [go_sem ↓] ld_Bd66 ld_Bd79 ld_Bd64_2
theorem pl_Re {l : List (Reals)} : pureL (recs realC l) = True := eq_true (recs_pure fun s => by simp [pureL, realC, cellPure, sl])
theorem lv_Re {l : List (Reals)} {p : Nat → Bool} : (recs realC l).all (live2 p) = true := recs_live fun s => by simp [pureL, realC, cellPure, sl]
theorem len_Re {l : List (Reals)} : (recs realC l).length = l.length * 3 := recs_length fun _ => rfl
theorem ld_Re97 {l : List (Reals)} {i : Nat} {K : AV → Prop} : loadK Try.prog 97 (recs realC l) (i * 3) K = (i < l.length ∧ K (.agg (realC (l.getD i default)))) := ld_recs tagg97 tsz97 (fun _ => rfl) (by omega)
attribute [go_sem] pl_Re lv_Re len_Re
attribute [go_sem ↓] ld_Re97
theorem pl_Pa {l : List (Parc)} : pureL (recs parcC l) = True := eq_true (recs_pure fun s => by simp [pureL, parcC, cellPure, sl])
theorem lv_Pa {l : List (Parc)} {p : Nat → Bool} : (recs parcC l).all (live2 p) = true := recs_live fun s => by simp [pureL, parcC, cellPure, sl]
theorem len_Pa {l : List (Parc)} : (recs parcC l).length = l.length * 4 := recs_length fun _ => rfl
theorem ld_Pa69 {l : List (Parc)} {i : Nat} {K : AV → Prop} : loadK Try.prog 69 (recs parcC l) (i * 4) K = (i < l.length ∧ K (.agg (parcC (l.getD i default)))) := ld_recs tagg69 tsz69 (fun _ => rfl) (by omega)
theorem ld_Pa71 {l : List (Parc)} {i : Nat} {K : AV → Prop} : loadK Try.prog 71 (recs parcC l) (i * 4) K = (i < l.length ∧ K (.agg (parcC (l.getD i default)))) := ld_recs tagg71 tsz71 (fun _ => rfl) (by omega)
theorem nth_Pa1 {l : List (Parc)} {i : Nat} {K : AV → Prop} : optK (nth (recs parcC l) (i * 4 + 1)) K = (i < l.length ∧ K (.int .i64 (l.getD i default).price)) := nth_recs (sz := 4) (o := 1) (fun _ => rfl) (by omega)
theorem nth_Pa2 {l : List (Parc)} {i : Nat} {K : AV → Prop} : optK (nth (recs parcC l) (i * 4 + 2)) K = (i < l.length ∧ K (.int .i64 (l.getD i default).people)) := nth_recs (sz := 4) (o := 2) (fun _ => rfl) (by omega)
attribute [go_sem] pl_Pa lv_Pa len_Pa nth_Pa1 nth_Pa2
attribute [go_sem ↓] ld_Pa69 ld_Pa71
theorem pl_Sd {l : List (Slid)} : pureL (recs slidC l) = True := eq_true (recs_pure fun s => by simp [pureL, slidC, cellPure, sl])
theorem lv_Sd {l : List (Slid)} {p : Nat → Bool} : (recs slidC l).all (live2 p) = true := recs_live fun s => by simp [pureL, slidC, cellPure, sl]
theorem len_Sd {l : List (Slid)} : (recs slidC l).length = l.length * 4 := recs_length fun _ => rfl
theorem ld_Sd39 {l : List (Slid)} {i : Nat} {K : AV → Prop} : loadK Try.prog 39 (recs slidC l) (i * 4) K = (i < l.length ∧ K (.agg (slidC (l.getD i default)))) := ld_recs tagg39 tsz39 (fun _ => rfl) (by omega)
theorem ld_Sd73 {l : List (Slid)} {i : Nat} {K : AV → Prop} : loadK Try.prog 73 (recs slidC l) (i * 4) K = (i < l.length ∧ K (.agg (slidC (l.getD i default)))) := ld_recs tagg73 tsz73 (fun _ => rfl) (by omega)
theorem ld_Sd37_2 {l : List (Slid)} {i : Nat} {K : AV → Prop} : loadK Try.prog 37 (recs slidC l) (i * 4 + 2) K = (i < l.length ∧ K (.agg [.int .i64 (l.getD i default).lo, .int .i64 (l.getD i default).hi])) := ld_recsub (sz := 4) (n := 2) (o := 2) tagg37 tsz37 (fun _ => rfl) (by omega) (by omega)
theorem ld_Sd61_2 {l : List (Slid)} {i : Nat} {K : AV → Prop} : loadK Try.prog 61 (recs slidC l) (i * 4 + 2) K = (i < l.length ∧ K (.agg [.int .i64 (l.getD i default).lo, .int .i64 (l.getD i default).hi])) := ld_recsub (sz := 4) (n := 2) (o := 2) tagg61 tsz61 (fun _ => rfl) (by omega) (by omega)
theorem nth_Sd0 {l : List (Slid)} {i : Nat} {K : AV → Prop} : optK (nth (recs slidC l) (i * 4)) K = (i < l.length ∧ K (.psl false (l.getD i default).way.length (ints (l.getD i default).way))) := nth_recs (sz := 4) (o := 0) (fun _ => rfl) (by omega)
theorem nth_Sd1 {l : List (Slid)} {i : Nat} {K : AV → Prop} : optK (nth (recs slidC l) (i * 4 + 1)) K = (i < l.length ∧ K (.int .i64 (l.getD i default).rate)) := nth_recs (sz := 4) (o := 1) (fun _ => rfl) (by omega)
theorem nth_Sd2 {l : List (Slid)} {i : Nat} {K : AV → Prop} : optK (nth (recs slidC l) (i * 4 + 2)) K = (i < l.length ∧ K (.int .i64 (l.getD i default).lo)) := nth_recs (sz := 4) (o := 2) (fun _ => rfl) (by omega)
attribute [go_sem] pl_Sd lv_Sd len_Sd nth_Sd0 nth_Sd1 nth_Sd2
attribute [go_sem ↓] ld_Sd39 ld_Sd73 ld_Sd37_2 ld_Sd61_2
theorem pl_Rg {l : List (Int × Int)} : pureL (recs rngC l) = True := eq_true (recs_pure fun s => by simp [pureL, rngC, cellPure, sl])
theorem lv_Rg {l : List (Int × Int)} {p : Nat → Bool} : (recs rngC l).all (live2 p) = true := recs_live fun s => by simp [pureL, rngC, cellPure, sl]
theorem len_Rg {l : List (Int × Int)} : (recs rngC l).length = l.length * 2 := recs_length fun _ => rfl
theorem nth_Rg0 {l : List (Int × Int)} {i : Nat} {K : AV → Prop} : optK (nth (recs rngC l) (i * 2)) K = (i < l.length ∧ K (.int .i64 (l.getD i default).1)) := nth_recs (sz := 2) (o := 0) (fun _ => rfl) (by omega)
theorem nth_Rg1 {l : List (Int × Int)} {i : Nat} {K : AV → Prop} : optK (nth (recs rngC l) (i * 2 + 1)) K = (i < l.length ∧ K (.int .i64 (l.getD i default).2)) := nth_recs (sz := 2) (o := 1) (fun _ => rfl) (by omega)
attribute [go_sem] pl_Rg lv_Rg len_Rg nth_Rg0 nth_Rg1
theorem len_Su {l : List (Int × List Int)} : (recs surfC l).length = l.length * 2 := recs_length fun _ => rfl
attribute [go_sem] len_Su
theorem within_c (n lo hi : Int) : CallS Try.prog 41 [.int .i64 n, .int .i64 lo, .int .i64 hi] (.bool (decide (lo ≤ n ∧ n ≤ hi))) := by
  rw [Bool.decide_and]
  (refine callS_of_awp (fun w args => Try.call41 ..) Try.func41 rfl (fun w0 m0 wz => ?_); simp only [Try.ntmps41, Try.results41, initT, junks, sl, List.toList_toArray, List.cons_append, List.nil_append, List.length_cons, List.length_nil, Nat.reduceAdd, Nat.reduceSub])
  (repeat' (first
 | refine awp_seqK ?_
 | refine kt ?_
 | refine And.intro ?_ ?_
 | ((first | refine awp_stp rfl ?_ | refine awp_draw (by kernel_rfl) (by kernel_rfl) ?_ | refine Imp.le2 ?_ | refine go_split (fun _h => ?_) (fun _h => ?_)) <;> try simp (maxSteps := 4000000) only [go_sem, seval])
 | intro _h
 | refine awp_block ?_
 | refine awp_scope ?_
 | refine cond_b ?_ ?_
 | (show heapOK _ _ = true; kernel_rfl)
 | (show heapOK2 _ _ = true; kernel_rfl)
 | (omega)))
  all_goals (simp_all; try omega)
theorem inS_c (n lo hi : Int) : CallS Try.prog 17 [.int .i64 n, .int .i64 lo, .int .i64 hi] (.bool (decide (lo ≤ n ∧ n ≤ hi))) := by
  rw [Bool.decide_and]
  (refine callS_of_awp (fun w args => Try.call17 ..) Try.func17 rfl (fun w0 m0 wz => ?_); simp only [Try.ntmps17, Try.results17, initT, junks, sl, List.toList_toArray, List.cons_append, List.nil_append, List.length_cons, List.length_nil, Nat.reduceAdd, Nat.reduceSub])
  (repeat' (first
 | refine awp_seqK ?_
 | refine kt ?_
 | refine And.intro ?_ ?_
 | ((first | refine awp_stp rfl ?_ | refine awp_draw (by kernel_rfl) (by kernel_rfl) ?_ | refine Imp.le2 ?_ | refine go_split (fun _h => ?_) (fun _h => ?_)) <;> try simp (maxSteps := 4000000) only [go_sem, seval])
 | intro _h
 | refine awp_block ?_
 | refine awp_scope ?_
 | refine cond_b ?_ ?_
 | (show heapOK _ _ = true; kernel_rfl)
 | (show heapOK2 _ _ = true; kernel_rfl)
 | (omega)))
  all_goals (simp_all; try omega)
theorem inZ_c (n lo hi : Int) : CallS Try.prog 19 [.int .i64 n, .int .i64 lo, .int .i64 hi] (.bool (decide (lo ≤ n ∧ n ≤ hi))) := by
  rw [Bool.decide_and]
  (refine callS_of_awp (fun w args => Try.call19 ..) Try.func19 rfl (fun w0 m0 wz => ?_); simp only [Try.ntmps19, Try.results19, initT, junks, sl, List.toList_toArray, List.cons_append, List.nil_append, List.length_cons, List.length_nil, Nat.reduceAdd, Nat.reduceSub])
  (repeat' (first
 | refine awp_seqK ?_
 | refine kt ?_
 | refine And.intro ?_ ?_
 | ((first | refine awp_stp rfl ?_ | refine awp_draw (by kernel_rfl) (by kernel_rfl) ?_ | refine Imp.le2 ?_ | refine go_split (fun _h => ?_) (fun _h => ?_)) <;> try simp (maxSteps := 4000000) only [go_sem, seval])
 | intro _h
 | refine awp_block ?_
 | refine awp_scope ?_
 | refine cond_b ?_ ?_
 | (show heapOK _ _ = true; kernel_rfl)
 | (show heapOK2 _ _ = true; kernel_rfl)
 | (omega)))
  all_goals (simp_all; try omega)
theorem withinZ_c (n lo hi : Int) : CallS Try.prog 52 [.int .i64 n, .int .i64 lo, .int .i64 hi] (.bool (decide (lo ≤ n ∧ n ≤ hi))) := by
  rw [Bool.decide_and]
  (refine callS_of_awp (fun w args => Try.call52 ..) Try.func52 rfl (fun w0 m0 wz => ?_); simp only [Try.ntmps52, Try.results52, initT, junks, sl, List.toList_toArray, List.cons_append, List.nil_append, List.length_cons, List.length_nil, Nat.reduceAdd, Nat.reduceSub])
  (repeat' (first
 | refine awp_seqK ?_
 | refine kt ?_
 | refine And.intro ?_ ?_
 | ((first | refine awp_stp rfl ?_ | refine awp_draw (by kernel_rfl) (by kernel_rfl) ?_ | refine Imp.le2 ?_ | refine go_split (fun _h => ?_) (fun _h => ?_)) <;> try simp (maxSteps := 4000000) only [go_sem, seval])
 | intro _h
 | refine awp_block ?_
 | refine awp_scope ?_
 | refine cond_b ?_ ?_
 | (show heapOK _ _ = true; kernel_rfl)
 | (show heapOK2 _ _ = true; kernel_rfl)
 | (omega)))
  all_goals (simp_all; try omega)
theorem uptoS_c (lo hi most : Int) : CallS Try.prog 18 [.agg [.int .i64 lo, .int .i64 hi], .int .i64 most] (.bool (decide (0 ≤ lo ∧ lo ≤ hi ∧ hi ≤ most))) := by
  rw [Bool.decide_and, Bool.decide_and]
  (refine callS_of_awp (fun w args => Try.call18 ..) Try.func18 rfl (fun w0 m0 wz => ?_); simp only [Try.ntmps18, Try.results18, initT, junks, sl, List.toList_toArray, List.cons_append, List.nil_append, List.length_cons, List.length_nil, Nat.reduceAdd, Nat.reduceSub])
  (repeat' (first
 | refine awp_seqK ?_
 | refine kt ?_
 | refine And.intro ?_ ?_
 | ((first | refine awp_stp rfl ?_ | refine awp_draw (by kernel_rfl) (by kernel_rfl) ?_ | refine Imp.le2 ?_ | refine go_split (fun _h => ?_) (fun _h => ?_)) <;> try simp (maxSteps := 4000000) only [go_sem, seval])
 | intro _h
 | refine awp_block ?_
 | refine awp_scope ?_
 | refine cond_b ?_ ?_
 | (show heapOK _ _ = true; kernel_rfl)
 | (show heapOK2 _ _ = true; kernel_rfl)
 | (omega)))
  all_goals (simp_all; try omega)
theorem uptoZ_c (lo hi most : Int) : CallS Try.prog 20 [.agg [.int .i64 lo, .int .i64 hi], .int .i64 most] (.bool (decide (0 ≤ lo ∧ lo ≤ hi ∧ hi ≤ most))) := by
  rw [Bool.decide_and, Bool.decide_and]
  (refine callS_of_awp (fun w args => Try.call20 ..) Try.func20 rfl (fun w0 m0 wz => ?_); simp only [Try.ntmps20, Try.results20, initT, junks, sl, List.toList_toArray, List.cons_append, List.nil_append, List.length_cons, List.length_nil, Nat.reduceAdd, Nat.reduceSub])
  (repeat' (first
 | refine awp_seqK ?_
 | refine kt ?_
 | refine And.intro ?_ ?_
 | ((first | refine awp_stp rfl ?_ | refine awp_draw (by kernel_rfl) (by kernel_rfl) ?_ | refine Imp.le2 ?_ | refine go_split (fun _h => ?_) (fun _h => ?_)) <;> try simp (maxSteps := 4000000) only [go_sem, seval])
 | intro _h
 | refine awp_block ?_
 | refine awp_scope ?_
 | refine cond_b ?_ ?_
 | (show heapOK _ _ = true; kernel_rfl)
 | (show heapOK2 _ _ = true; kernel_rfl)
 | (omega)))
  all_goals (simp_all; try omega)
theorem upZ_c (lo hi most : Int) : CallS Try.prog 73 [.agg [.int .i64 lo, .int .i64 hi], .int .i64 most] (.bool (decide (0 ≤ lo ∧ lo ≤ hi ∧ hi ≤ most))) := by
  rw [Bool.decide_and, Bool.decide_and]
  (refine callS_of_awp (fun w args => Try.call73 ..) Try.func73 rfl (fun w0 m0 wz => ?_); simp only [Try.ntmps73, Try.results73, initT, junks, sl, List.toList_toArray, List.cons_append, List.nil_append, List.length_cons, List.length_nil, Nat.reduceAdd, Nat.reduceSub])
  (repeat' (first
 | refine awp_seqK ?_
 | refine kt ?_
 | refine And.intro ?_ ?_
 | ((first | refine awp_stp rfl ?_ | refine awp_draw (by kernel_rfl) (by kernel_rfl) ?_ | refine Imp.le2 ?_ | refine go_split (fun _h => ?_) (fun _h => ?_)) <;> try simp (maxSteps := 4000000) only [go_sem, seval])
 | intro _h
 | refine awp_block ?_
 | refine awp_scope ?_
 | refine cond_b ?_ ?_
 | (show heapOK _ _ = true; kernel_rfl)
 | (show heapOK2 _ _ = true; kernel_rfl)
 | (omega)))
  all_goals (simp_all; try omega)
theorem up_c (lo hi most : Int) : CallS Try.prog 79 [.agg [.int .i64 lo, .int .i64 hi], .int .i64 most] (.bool (decide (0 ≤ lo ∧ lo ≤ hi ∧ hi ≤ most))) := by
  rw [Bool.decide_and, Bool.decide_and]
  (refine callS_of_awp (fun w args => Try.call79 ..) Try.func79 rfl (fun w0 m0 wz => ?_); simp only [Try.ntmps79, Try.results79, initT, junks, sl, List.toList_toArray, List.cons_append, List.nil_append, List.length_cons, List.length_nil, Nat.reduceAdd, Nat.reduceSub])
  (repeat' (first
 | refine awp_seqK ?_
 | refine kt ?_
 | refine And.intro ?_ ?_
 | ((first | refine awp_stp rfl ?_ | refine awp_draw (by kernel_rfl) (by kernel_rfl) ?_ | refine Imp.le2 ?_ | refine go_split (fun _h => ?_) (fun _h => ?_)) <;> try simp (maxSteps := 4000000) only [go_sem, seval])
 | intro _h
 | refine awp_block ?_
 | refine awp_scope ?_
 | refine cond_b ?_ ?_
 | (show heapOK _ _ = true; kernel_rfl)
 | (show heapOK2 _ _ = true; kernel_rfl)
 | (omega)))
  all_goals (simp_all; try omega)
theorem high_c (lo hi : Int) : CallS Try.prog 43 [.agg [.int .i64 lo, .int .i64 hi]] (.int .i64 hi) := by
  (refine callS_of_awp (fun w args => Try.call43 ..) Try.func43 rfl (fun w0 m0 wz => ?_); simp only [Try.ntmps43, Try.results43, initT, junks, sl, List.toList_toArray, List.cons_append, List.nil_append, List.length_cons, List.length_nil, Nat.reduceAdd, Nat.reduceSub])
  (repeat' (first
 | refine awp_seqK ?_
 | refine kt ?_
 | refine And.intro ?_ ?_
 | ((first | refine awp_stp rfl ?_ | refine awp_draw (by kernel_rfl) (by kernel_rfl) ?_ | refine Imp.le2 ?_ | refine go_split (fun _h => ?_) (fun _h => ?_)) <;> try simp (maxSteps := 4000000) only [go_sem, seval])
 | intro _h
 | refine awp_block ?_
 | refine awp_scope ?_
 | refine cond_b ?_ ?_
 | (show heapOK _ _ = true; kernel_rfl)
 | (show heapOK2 _ _ = true; kernel_rfl)
 | (omega)))
theorem low_c (lo hi : Int) : CallS Try.prog 44 [.agg [.int .i64 lo, .int .i64 hi]] (.int .i64 lo) := by
  (refine callS_of_awp (fun w args => Try.call44 ..) Try.func44 rfl (fun w0 m0 wz => ?_); simp only [Try.ntmps44, Try.results44, initT, junks, sl, List.toList_toArray, List.cons_append, List.nil_append, List.length_cons, List.length_nil, Nat.reduceAdd, Nat.reduceSub])
  (repeat' (first
 | refine awp_seqK ?_
 | refine kt ?_
 | refine And.intro ?_ ?_
 | ((first | refine awp_stp rfl ?_ | refine awp_draw (by kernel_rfl) (by kernel_rfl) ?_ | refine Imp.le2 ?_ | refine go_split (fun _h => ?_) (fun _h => ?_)) <;> try simp (maxSteps := 4000000) only [go_sem, seval])
 | intro _h
 | refine awp_block ?_
 | refine awp_scope ?_
 | refine cond_b ?_ ?_
 | (show heapOK _ _ = true; kernel_rfl)
 | (show heapOK2 _ _ = true; kernel_rfl)
 | (omega)))
theorem lowZ_c (lo hi : Int) : CallS Try.prog 33 [.agg [.int .i64 lo, .int .i64 hi]] (.int .i64 lo) := by
  (refine callS_of_awp (fun w args => Try.call33 ..) Try.func33 rfl (fun w0 m0 wz => ?_); simp only [Try.ntmps33, Try.results33, initT, junks, sl, List.toList_toArray, List.cons_append, List.nil_append, List.length_cons, List.length_nil, Nat.reduceAdd, Nat.reduceSub])
  (repeat' (first
 | refine awp_seqK ?_
 | refine kt ?_
 | refine And.intro ?_ ?_
 | ((first | refine awp_stp rfl ?_ | refine awp_draw (by kernel_rfl) (by kernel_rfl) ?_ | refine Imp.le2 ?_ | refine go_split (fun _h => ?_) (fun _h => ?_)) <;> try simp (maxSteps := 4000000) only [go_sem, seval])
 | intro _h
 | refine awp_block ?_
 | refine awp_scope ?_
 | refine cond_b ?_ ?_
 | (show heapOK _ _ = true; kernel_rfl)
 | (show heapOK2 _ _ = true; kernel_rfl)
 | (omega)))
theorem highZ_c (lo hi : Int) : CallS Try.prog 35 [.agg [.int .i64 lo, .int .i64 hi]] (.int .i64 hi) := by
  (refine callS_of_awp (fun w args => Try.call35 ..) Try.func35 rfl (fun w0 m0 wz => ?_); simp only [Try.ntmps35, Try.results35, initT, junks, sl, List.toList_toArray, List.cons_append, List.nil_append, List.length_cons, List.length_nil, Nat.reduceAdd, Nat.reduceSub])
  (repeat' (first
 | refine awp_seqK ?_
 | refine kt ?_
 | refine And.intro ?_ ?_
 | ((first | refine awp_stp rfl ?_ | refine awp_draw (by kernel_rfl) (by kernel_rfl) ?_ | refine Imp.le2 ?_ | refine go_split (fun _h => ?_) (fun _h => ?_)) <;> try simp (maxSteps := 4000000) only [go_sem, seval])
 | intro _h
 | refine awp_block ?_
 | refine awp_scope ?_
 | refine cond_b ?_ ?_
 | (show heapOK _ _ = true; kernel_rfl)
 | (show heapOK2 _ _ = true; kernel_rfl)
 | (omega)))
theorem has_c (lo hi n : Int) : CallS Try.prog 39 [.agg [.int .i64 lo, .int .i64 hi], .int .i64 n] (.bool (decide (lo ≤ n ∧ n ≤ hi))) := by
  (refine callS_of_awp (fun w args => Try.call39 ..) Try.func39 rfl (fun w0 m0 wz => ?_); simp only [Try.ntmps39, Try.results39, initT, junks, sl, List.toList_toArray, List.cons_append, List.nil_append, List.length_cons, List.length_nil, Nat.reduceAdd, Nat.reduceSub])
  (repeat' (first
 | refine awp_seqK ?_
 | refine kt ?_
 | refine And.intro ?_ ?_
 | ((first | refine awp_stp rfl ?_ | refine awp_draw (by kernel_rfl) (by kernel_rfl) ?_ | refine Imp.le2 ?_ | refine callK_of (withinZ_c _ _ _) ?_ | refine go_split (fun _h => ?_) (fun _h => ?_)) <;> try simp (maxSteps := 4000000) only [go_sem, seval])
 | intro _h
 | refine awp_block ?_
 | refine awp_scope ?_
 | refine cond_b ?_ ?_
 | (show heapOK _ _ = true; kernel_rfl)
 | (show heapOK2 _ _ = true; kernel_rfl)
 | (omega)))
theorem to_c (lo hi : Int) : CallS Try.prog 25 [.agg [.int .i64 lo, .int .i64 hi]] (.agg [.int .i64 lo, .int .i64 hi]) := by
  (refine callS_of_awp (fun w args => Try.call25 ..) Try.func25 rfl (fun w0 m0 wz => ?_); simp only [Try.ntmps25, Try.results25, initT, junks, sl, List.toList_toArray, List.cons_append, List.nil_append, List.length_cons, List.length_nil, Nat.reduceAdd, Nat.reduceSub])
  (repeat' (first
 | refine awp_seqK ?_
 | refine kt ?_
 | refine And.intro ?_ ?_
 | ((first | refine awp_stp rfl ?_ | refine awp_draw (by kernel_rfl) (by kernel_rfl) ?_ | refine Imp.le2 ?_ | refine go_split (fun _h => ?_) (fun _h => ?_)) <;> try simp (maxSteps := 4000000) only [go_sem, seval])
 | intro _h
 | refine awp_block ?_
 | refine awp_scope ?_
 | refine cond_b ?_ ?_
 | (show heapOK _ _ = true; kernel_rfl)
 | (show heapOK2 _ _ = true; kernel_rfl)
 | (omega)))
theorem min2_c (f : Bool) (a b : Int) : CallS Try.prog 82 [.psl f 2 [.int .i64 a, .int .i64 b]] (.int .i64 (min a b)) := by
  (refine callS_of_awp (fun w args => Try.call82 ..) Try.func82 rfl (fun w0 m0 wz => ?_); simp only [Try.ntmps82, Try.results82, initT, junks, sl, List.toList_toArray, List.cons_append, List.nil_append, List.length_cons, List.length_nil, Nat.reduceAdd, Nat.reduceSub])
  (repeat' (first
 | refine awp_seqK ?_
 | refine kt ?_
 | refine And.intro ?_ ?_
 | ((first | refine awp_stp rfl ?_ | refine awp_draw (by kernel_rfl) (by kernel_rfl) ?_ | refine Imp.le2 ?_ | refine go_split (fun _h => ?_) (fun _h => ?_)) <;> try simp (maxSteps := 4000000) only [go_sem, seval])
 | intro _h
 | refine awp_block ?_
 | refine awp_scope ?_
 | refine cond_b ?_ ?_
 | (show heapOK _ _ = true; kernel_rfl)
 | (show heapOK2 _ _ = true; kernel_rfl)
 | (omega)))
  (refine awp_rounds 2 ?_; rw [ar_s])
  (repeat' (first
 | refine awp_seqK ?_
 | refine kt ?_
 | refine And.intro ?_ ?_
 | ((first | refine awp_stp rfl ?_ | refine awp_draw (by kernel_rfl) (by kernel_rfl) ?_ | refine Imp.le2 ?_ | refine go_split (fun _h => ?_) (fun _h => ?_)) <;> try simp (maxSteps := 4000000) only [go_sem, seval])
 | intro _h
 | refine awp_block ?_
 | refine awp_scope ?_
 | refine cond_b ?_ ?_
 | (show heapOK _ _ = true; kernel_rfl)
 | (show heapOK2 _ _ = true; kernel_rfl)
 | (omega)))
theorem least2_c (f : Bool) (a b : Int) : CallS Try.prog 66 [.psl f 2 [.int .i64 a, .int .i64 b]] (.int .i64 (min a b)) := by
  (refine callS_of_awp (fun w args => Try.call66 ..) Try.func66 rfl (fun w0 m0 wz => ?_); simp only [Try.ntmps66, Try.results66, initT, junks, sl, List.toList_toArray, List.cons_append, List.nil_append, List.length_cons, List.length_nil, Nat.reduceAdd, Nat.reduceSub])
  (repeat' (first
 | refine awp_seqK ?_
 | refine kt ?_
 | refine And.intro ?_ ?_
 | ((first | refine awp_stp rfl ?_ | refine awp_draw (by kernel_rfl) (by kernel_rfl) ?_ | refine Imp.le2 ?_ | refine callK_of (min2_c _ _ _) ?_ | refine go_split (fun _h => ?_) (fun _h => ?_)) <;> try simp (maxSteps := 4000000) only [go_sem, seval])
 | intro _h
 | refine awp_block ?_
 | refine awp_scope ?_
 | refine cond_b ?_ ?_
 | (show heapOK _ _ = true; kernel_rfl)
 | (show heapOK2 _ _ = true; kernel_rfl)
 | (omega)))
def mostV (b : Bed) : Reals := ⟨b.f2, b.c2, b.w1⟩
def leastV (b : Bed) : Reals := ⟨b.f1, b.c1, b.w2⟩
theorem realM_c (b : Bed) : CallS Try.prog 42 [.agg (bedC b), .fn (.func 43) [] [], .fn (.func 44) [] []] (.agg (realC (mostV b))) := by
  simp only [realC, mostV]
  (refine callS_of_awp (fun w args => Try.call42 ..) Try.func42 rfl (fun w0 m0 wz => ?_); simp only [Try.ntmps42, Try.results42, initT, junks, sl, List.toList_toArray, List.cons_append, List.nil_append, List.length_cons, List.length_nil, Nat.reduceAdd, Nat.reduceSub])
  (repeat' (first
 | refine awp_seqK ?_
 | refine kt ?_
 | refine And.intro ?_ ?_
 | ((first | refine awp_stp rfl ?_ | refine awp_draw (by kernel_rfl) (by kernel_rfl) ?_ | refine Imp.le2 ?_ | refine callK_of (high_c _ _) ?_ | refine callK_of (low_c _ _) ?_ | refine go_split (fun _h => ?_) (fun _h => ?_)) <;> try simp (maxSteps := 4000000) only [go_sem, seval])
 | intro _h
 | refine awp_block ?_
 | refine awp_scope ?_
 | refine cond_b ?_ ?_
 | (show heapOK _ _ = true; kernel_rfl)
 | (show heapOK2 _ _ = true; kernel_rfl)
 | (omega)))
theorem realL_c (b : Bed) : CallS Try.prog 42 [.agg (bedC b), .fn (.func 44) [] [], .fn (.func 43) [] []] (.agg (realC (leastV b))) := by
  simp only [realC, leastV]
  (refine callS_of_awp (fun w args => Try.call42 ..) Try.func42 rfl (fun w0 m0 wz => ?_); simp only [Try.ntmps42, Try.results42, initT, junks, sl, List.toList_toArray, List.cons_append, List.nil_append, List.length_cons, List.length_nil, Nat.reduceAdd, Nat.reduceSub])
  (repeat' (first
 | refine awp_seqK ?_
 | refine kt ?_
 | refine And.intro ?_ ?_
 | ((first | refine awp_stp rfl ?_ | refine awp_draw (by kernel_rfl) (by kernel_rfl) ?_ | refine Imp.le2 ?_ | refine callK_of (high_c _ _) ?_ | refine callK_of (low_c _ _) ?_ | refine go_split (fun _h => ?_) (fun _h => ?_)) <;> try simp (maxSteps := 4000000) only [go_sem, seval])
 | intro _h
 | refine awp_block ?_
 | refine awp_scope ?_
 | refine cond_b ?_ ?_
 | (show heapOK _ _ = true; kernel_rfl)
 | (show heapOK2 _ _ = true; kernel_rfl)
 | (omega)))
theorem most_c (b : Bed) : CallS Try.prog 22 [.agg (bedC b)] (.agg (realC (mostV b))) := by
  have h := realM_c b
  simp only [bedC, realC] at h ⊢
  (refine callS_of_awp (fun w args => Try.call22 ..) Try.func22 rfl (fun w0 m0 wz => ?_); simp only [Try.ntmps22, Try.results22, initT, junks, sl, List.toList_toArray, List.cons_append, List.nil_append, List.length_cons, List.length_nil, Nat.reduceAdd, Nat.reduceSub])
  (repeat' (first
 | refine awp_seqK ?_
 | refine kt ?_
 | refine And.intro ?_ ?_
 | ((first | refine awp_stp rfl ?_ | refine awp_draw (by kernel_rfl) (by kernel_rfl) ?_ | refine Imp.le2 ?_ | refine callK_of (h) ?_ | refine go_split (fun _h => ?_) (fun _h => ?_)) <;> try simp (maxSteps := 4000000) only [go_sem, seval])
 | intro _h
 | refine awp_block ?_
 | refine awp_scope ?_
 | refine cond_b ?_ ?_
 | (show heapOK _ _ = true; kernel_rfl)
 | (show heapOK2 _ _ = true; kernel_rfl)
 | (omega)))
theorem least_c (b : Bed) : CallS Try.prog 46 [.agg (bedC b)] (.agg (realC (leastV b))) := by
  have h := realL_c b
  simp only [bedC, realC] at h ⊢
  (refine callS_of_awp (fun w args => Try.call46 ..) Try.func46 rfl (fun w0 m0 wz => ?_); simp only [Try.ntmps46, Try.results46, initT, junks, sl, List.toList_toArray, List.cons_append, List.nil_append, List.length_cons, List.length_nil, Nat.reduceAdd, Nat.reduceSub])
  (repeat' (first
 | refine awp_seqK ?_
 | refine kt ?_
 | refine And.intro ?_ ?_
 | ((first | refine awp_stp rfl ?_ | refine awp_draw (by kernel_rfl) (by kernel_rfl) ?_ | refine Imp.le2 ?_ | refine callK_of (h) ?_ | refine go_split (fun _h => ?_) (fun _h => ?_)) <;> try simp (maxSteps := 4000000) only [go_sem, seval])
 | intro _h
 | refine awp_block ?_
 | refine awp_scope ?_
 | refine cond_b ?_ ?_
 | (show heapOK _ _ = true; kernel_rfl)
 | (show heapOK2 _ _ = true; kernel_rfl)
 | (omega)))
theorem leastR_c (b : Bed) : CallS Try.prog 50 [.agg (bedC b)] (.agg (realC (leastV b))) := by
  simp only [bedC, realC, leastV]
  (refine callS_of_awp (fun w args => Try.call50 ..) Try.func50 rfl (fun w0 m0 wz => ?_); simp only [Try.ntmps50, Try.results50, initT, junks, sl, List.toList_toArray, List.cons_append, List.nil_append, List.length_cons, List.length_nil, Nat.reduceAdd, Nat.reduceSub])
  (repeat' (first
 | refine awp_seqK ?_
 | refine kt ?_
 | refine And.intro ?_ ?_
 | ((first | refine awp_stp rfl ?_ | refine awp_draw (by kernel_rfl) (by kernel_rfl) ?_ | refine Imp.le2 ?_ | refine go_split (fun _h => ?_) (fun _h => ?_)) <;> try simp (maxSteps := 4000000) only [go_sem, seval])
 | intro _h
 | refine awp_block ?_
 | refine awp_scope ?_
 | refine cond_b ?_ ?_
 | (show heapOK _ _ = true; kernel_rfl)
 | (show heapOK2 _ _ = true; kernel_rfl)
 | (omega)))
end Go.Am

/- Contracts of the slope functions: what holds of all of a list. -/
namespace Go.Am
open Go.RowKit Go.Proofs
attribute [local irreducible] AWP CallS Kt goK CallK stepK evOps SemF SemY Imp
set_option maxRecDepth 4000
set_option linter.unusedSimpArgs false
set_option linter.unusedVariables false
set_option maxHeartbeats 3200000
def idxOf {α : Type} (q : α → Bool) (l : List α) : Int := match l.findIdx? q with | some i => i | none => -1
theorem idxOf_some {α : Type} {q : α → Bool} {l : List α} {d : α} {i : Nat} (hi : i < l.length) (h : q (l.getD i d) = true) (hj : ∀ j, j < i → q (l.getD j d) = false) : (i : Int) = idxOf q l := by
  have : l.findIdx? q = some i := by
    rw [List.findIdx?_eq_some_iff_getElem]
    refine ⟨hi, by simpa [List.getD_eq_getElem?_getD, hi] using h, fun j hji => ?_⟩
    have := hj j hji
    simpa [List.getD_eq_getElem?_getD, Nat.lt_trans hji hi] using this
  simp [idxOf, this]
theorem idxOf_none {α : Type} {q : α → Bool} {l : List α} {d : α} (hj : ∀ j, j < l.length → q (l.getD j d) = false) : -1 = idxOf q l := by
  have : l.findIdx? q = none := by
    rw [List.findIdx?_eq_none_iff]
    intro x hx
    obtain ⟨j, hjl, rfl⟩ := List.mem_iff_getElem.1 hx
    have := hj j hjl
    simpa [List.getD_eq_getElem?_getD, hjl] using this
  simp [idxOf, this]
theorem idxOf_ge {α : Type} {q : α → Bool} {l : List α} : decide (0 ≤ idxOf q l) = l.any q := by
  unfold idxOf
  cases h : l.findIdx? q with
  | none =>
    rw [List.findIdx?_eq_none_iff] at h
    have : l.any q = false := by rw [List.any_eq_false]; intro x hx; simp [h x hx]
    simp [this]
  | some i =>
    rw [List.findIdx?_eq_some_iff_getElem] at h
    obtain ⟨h1, h2, _⟩ := h
    have : l.any q = true := by rw [List.any_eq_true]; exact ⟨_, List.getElem_mem h1, h2⟩
    simp [this]
theorem idx_Bd (l : List (Bed)) (g : FuncId) (fv : AV) (q : Bed → Bool) (hl : l.length ≤ 9223372036854775807) (hq : ∀ i, i < l.length → CallS Try.prog g [.agg (bedC (l.getD i default)), .pptr [fv] 0] (.bool (q (l.getD i default)))) :
    CallS Try.prog 86 [slB l, .fn (.func g) [] [.pptr [fv] 0]] (.int .i64 (idxOf q l)) := by
  simp only [bedC] at hq
  (refine callS_of_awp (fun w args => Try.call86 ..) Try.func86 rfl (fun w0 m0 wz => ?_); simp only [Try.ntmps86, Try.results86, initT, junks, sl, List.toList_toArray, List.cons_append, List.nil_append, List.length_cons, List.length_nil, Nat.reduceAdd, Nat.reduceSub])
  (repeat' (first
 | refine awp_seqK ?_
 | refine kt ?_
 | refine And.intro ?_ ?_
 | ((first | refine awp_stp rfl ?_ | refine awp_draw (by kernel_rfl) (by kernel_rfl) ?_ | refine Imp.le2 ?_ | refine go_split (fun _h => ?_) (fun _h => ?_)) <;> try simp (maxSteps := 4000000) only [go_sem, seval])
 | intro _h
 | refine awp_block ?_
 | refine awp_scope ?_
 | refine cond_b ?_ ?_
 | (show heapOK _ _ = true; kernel_rfl)
 | (show heapOK2 _ _ = true; kernel_rfl)
 | (omega)))
  refine awp_loopJ (fun i : Nat => i ≤ l.length ∧ ∀ j, j < i → q (l.getD j default) = false) (fun i => ⟨mkT 19 [(0, slB l), (1, .fn (.func g) [] [.pptr [fv] 0]), (6, slB l), (7, .int .i64 l.length), (8, .int .i64 i)], [], []⟩) (fun i => l.length - i) 0 ⟨Nat.zero_le _, by simp⟩ (.le2 ?_) ?_
  · simp (maxSteps := 4000000) only [go_sem, seval]
  · rintro i ⟨hi, hj⟩
    simp (maxSteps := 4000000) only [go_sem, seval]
    (repeat' (first
 | refine awp_seqK ?_
 | refine kt ?_
 | refine And.intro ?_ ?_
 | ((first | refine awp_stp rfl ?_ | refine awp_draw (by kernel_rfl) (by kernel_rfl) ?_ | refine Imp.le2 ?_ | refine callK_of (hq i (by omega)) ?_ | refine go_split (fun _h => ?_) (fun _h => ?_)) <;> try simp (maxSteps := 4000000) only [go_sem, seval])
 | intro _h
 | refine awp_block ?_
 | refine awp_scope ?_
 | refine cond_b ?_ ?_
 | (show heapOK _ _ = true; kernel_rfl)
 | (show heapOK2 _ _ = true; kernel_rfl)
 | (omega)))
    · exact idxOf_some (by omega) ‹_› hj
    · refine ⟨i + 1, ⟨by omega, fun j hji => ?_⟩, by omega, .le2 ?_⟩
      · rcases Nat.lt_succ_iff_lt_or_eq.1 hji with h | rfl
        · exact hj j h
        · assumption
      · simp (maxSteps := 4000000) only [go_sem, seval]
        all_goals omega
    · exact idxOf_none (d := default) (fun j hjl => hj j (by omega))
theorem has_Bd (l : List (Bed)) (g : FuncId) (fv : AV) (q : Bed → Bool) (hl : l.length ≤ 9223372036854775807) (hq : ∀ i, i < l.length → CallS Try.prog g [.agg (bedC (l.getD i default)), .pptr [fv] 0] (.bool (q (l.getD i default)))) :
    CallS Try.prog 77 [slB l, .fn (.func g) [] [.pptr [fv] 0]] (.bool (l.any q)) := by
  rw [← idxOf_ge]
  (refine callS_of_awp (fun w args => Try.call77 ..) Try.func77 rfl (fun w0 m0 wz => ?_); simp only [Try.ntmps77, Try.results77, initT, junks, sl, List.toList_toArray, List.cons_append, List.nil_append, List.length_cons, List.length_nil, Nat.reduceAdd, Nat.reduceSub])
  (repeat' (first
 | refine awp_seqK ?_
 | refine kt ?_
 | refine And.intro ?_ ?_
 | ((first | refine awp_stp rfl ?_ | refine awp_draw (by kernel_rfl) (by kernel_rfl) ?_ | refine Imp.le2 ?_ | refine callK_of (idx_Bd l g fv q hl hq) ?_ | refine go_split (fun _h => ?_) (fun _h => ?_)) <;> try simp (maxSteps := 4000000) only [go_sem, seval])
 | intro _h
 | refine awp_block ?_
 | refine awp_scope ?_
 | refine cond_b ?_ ?_
 | (show heapOK _ _ = true; kernel_rfl)
 | (show heapOK2 _ _ = true; kernel_rfl)
 | (omega)))
theorem all1_Bd (s : Bed) (r : AV) (f : FuncId)  (q : Bool) (hr : r = .fn (.func f) [] []) (hq : CallS Try.prog f [.agg (bedC s)] (.bool q)) : CallS Try.prog 78 [.agg (bedC s), .pptr [r] 0] (.bool (!q)) := by
  subst hr
  simp only [bedC] at hq ⊢
  (refine callS_of_awp (fun w args => Try.call78 ..) Try.func78 rfl (fun w0 m0 wz => ?_); simp only [Try.ntmps78, Try.results78, initT, junks, sl, List.toList_toArray, List.cons_append, List.nil_append, List.length_cons, List.length_nil, Nat.reduceAdd, Nat.reduceSub])
  (repeat' (first
 | refine awp_seqK ?_
 | refine kt ?_
 | refine And.intro ?_ ?_
 | ((first | refine awp_stp rfl ?_ | refine awp_draw (by kernel_rfl) (by kernel_rfl) ?_ | refine Imp.le2 ?_ | refine callK_of (hq) ?_ | refine go_split (fun _h => ?_) (fun _h => ?_)) <;> try simp (maxSteps := 4000000) only [go_sem, seval])
 | intro _h
 | refine awp_block ?_
 | refine awp_scope ?_
 | refine cond_b ?_ ?_
 | (show heapOK _ _ = true; kernel_rfl)
 | (show heapOK2 _ _ = true; kernel_rfl)
 | (omega))) <;> first | simp only [*, Bool.not_true, Bool.not_false] | trace_state
theorem all_Bd (l : List (Bed)) (f : FuncId)  (q : Bed → Bool) (hl : l.length ≤ 9223372036854775807) (hq : ∀ i, i < l.length → CallS Try.prog f [.agg (bedC (l.getD i default))] (.bool (q (l.getD i default)))) :
    CallS Try.prog 61 [slB l, .fn (.func f) [] []] (.bool (l.all q)) := by
  have hany : l.all q = !l.any (fun x => !q x) := by simp [List.all_eq_not_any_not]
  rw [hany]
  (refine callS_of_awp (fun w args => Try.call61 ..) Try.func61 rfl (fun w0 m0 wz => ?_); simp only [Try.ntmps61, Try.results61, initT, junks, sl, List.toList_toArray, List.cons_append, List.nil_append, List.length_cons, List.length_nil, Nat.reduceAdd, Nat.reduceSub])
  ((repeat refine awp_seqK ?_); refine awp_region ?_; simp (maxSteps := 4000000) only [go_sem, seval]; refine kt ?_)
  (refine awp_frz 0 rfl (by simp (maxSteps := 4000000) only [go_sem, seval]) (fun _ => rfl) ?_; simp only [frz, fzl, fz2, fz1, fz0, fzH, fzHs, fzO, fzB, List.map_cons, List.map_nil, if_true, if_false, reduceIte, Nat.reduceEqDiff, Nat.reduceAdd, Nat.succ_ne_self, Nat.zero_ne_one, Nat.one_ne_zero, reduceCtorEq, and_self])
  (repeat' (first
 | refine awp_seqK ?_
 | refine kt ?_
 | refine And.intro ?_ ?_
 | ((first | refine awp_stp rfl ?_ | refine awp_draw (by kernel_rfl) (by kernel_rfl) ?_ | refine Imp.le2 ?_ | refine callK_of (has_Bd l 78 (.fn (.func f) [] []) (fun x => !q x) hl (fun i hi => all1_Bd _ _ _ _ rfl (hq i hi))) ?_ | refine go_split (fun _h => ?_) (fun _h => ?_)) <;> try simp (maxSteps := 4000000) only [go_sem, seval])
 | intro _h
 | refine awp_block ?_
 | refine awp_scope ?_
 | refine cond_b ?_ ?_
 | (show heapOK _ _ = true; kernel_rfl)
 | (show heapOK2 _ _ = true; kernel_rfl)
 | (omega))) <;> simp only [*, Bool.not_true, Bool.not_false]
theorem allA_Co (m : Int) (x : List Bed) (q : Bool) (hq : SemF Try.prog 60 ([slB x] ++ [.ptr 0 0 0]) [some (.cells 3 1 0 [.int .i64 m])] (.bool q) [some (.cells 3 1 0 [.int .i64 m])]) : SemF Try.prog 76 [slB x, .ptr 1 0 0] [some (.cells 3 1 0 [.int .i64 m]), some (.cells 130 1 0 [.fn (.func 60) [] [.ptr 0 0 0]])] (.bool (!q)) [some (.cells 3 1 0 [.int .i64 m]), some (.cells 130 1 0 [.fn (.func 60) [] [.ptr 0 0 0]])] := by
  simp only [slB, slC] at hq ⊢
  (refine semF_of_awp (ys := [.bool (!q)]) (fun w args => Try.call76 ..) Try.func76 rfl (fun w0 m0 wz => ?_); simp only [Try.ntmps76, Try.results76, initT, junks, sl, List.toList_toArray, List.cons_append, List.nil_append, List.length_cons, List.length_nil, Nat.reduceAdd, Nat.reduceSub])
  (repeat' (first
 | (refine awp_ownN 2 rfl ?_; simp (maxSteps := 4000000) only [go_sem, seval, List.take_succ_cons, List.take_zero]; (repeat refine And.intro (by omega) ?_); refine own_go (hq) [0] rfl ?_ ?_ rfl ?_ <;> try simp (maxSteps := 4000000) only [go_sem, seval, Nat.lt_irrefl] <;> try decide)
 | refine awp_seqK ?_
 | refine kt ?_
 | refine And.intro ?_ ?_
 | ((first | refine awp_stp rfl ?_ | refine awp_draw (by kernel_rfl) (by kernel_rfl) ?_ | refine Imp.le2 ?_ | refine go_split (fun _h => ?_) (fun _h => ?_)) <;> try simp (maxSteps := 4000000) only [go_sem, seval])
 | intro _h
 | refine awp_block ?_
 | refine awp_scope ?_
 | refine cond_b ?_ ?_
 | (show heapOK _ _ = true; kernel_rfl)
 | (show heapOK2 _ _ = true; kernel_rfl)
 | (omega))) <;> simp [*]
theorem idxA_Co (m : Int) (l : List (List Bed)) (q : List Bed → Bool) (hl : l.length ≤ 1000000) (hq : ∀ i, i < l.length → SemF Try.prog 76 [slB (l.getD i []), .ptr 1 0 0] [some (.cells 3 1 0 [.int .i64 m]), some (.cells 130 1 0 [.fn (.func 60) [] [.ptr 0 0 0]])] (.bool (q (l.getD i []))) [some (.cells 3 1 0 [.int .i64 m]), some (.cells 130 1 0 [.fn (.func 60) [] [.ptr 0 0 0]])]) :
    SemF Try.prog 85 [slC l, .fn (.func 76) [] [.ptr 1 0 0]] [some (.cells 3 1 0 [.int .i64 m]), some (.cells 130 1 0 [.fn (.func 60) [] [.ptr 0 0 0]])] (.int .i64 (idxOf q l)) [some (.cells 3 1 0 [.int .i64 m]), some (.cells 130 1 0 [.fn (.func 60) [] [.ptr 0 0 0]])] := by
  simp only [slB, slC] at hq ⊢
  (refine semF_of_awp (ys := [.int .i64 (idxOf q l)]) (fun w args => Try.call85 ..) Try.func85 rfl (fun w0 m0 wz => ?_); simp only [Try.ntmps85, Try.results85, initT, junks, sl, List.toList_toArray, List.cons_append, List.nil_append, List.length_cons, List.length_nil, Nat.reduceAdd, Nat.reduceSub])
  (repeat' (first
 | refine awp_seqK ?_
 | refine kt ?_
 | refine And.intro ?_ ?_
 | ((first | refine awp_stp rfl ?_ | refine awp_draw (by kernel_rfl) (by kernel_rfl) ?_ | refine Imp.le2 ?_ | refine go_split (fun _h => ?_) (fun _h => ?_)) <;> try simp (maxSteps := 4000000) only [go_sem, seval])
 | intro _h
 | refine awp_block ?_
 | refine awp_scope ?_
 | refine cond_b ?_ ?_
 | (show heapOK _ _ = true; kernel_rfl)
 | (show heapOK2 _ _ = true; kernel_rfl)
 | (omega)))
  refine awp_loopJ (fun i : Nat => i ≤ l.length ∧ ∀ j, j < i → q (l.getD j []) = false) (fun i => ⟨mkT 19 [(0, slC l), (1, .fn (.func 76) [] [.ptr 1 0 0]), (6, slC l), (7, .int .i64 l.length), (8, .int .i64 i)], [some (.cells 3 1 0 [.int .i64 m]), some (.cells 130 1 0 [.fn (.func 60) [] [.ptr 0 0 0]])], []⟩) (fun i => l.length - i) 0 ⟨Nat.zero_le _, by simp⟩ (.le2 ?_) ?_
  · simp only [slB, slC]; simp (maxSteps := 4000000) only [go_sem, seval]
  · rintro i ⟨hi, hj⟩
    simp only [slB, slC]; simp (maxSteps := 4000000) only [go_sem, seval]
    have hqi := hq i
    (repeat' (first
 | (refine awp_ownN 5 rfl ?_; simp (maxSteps := 4000000) only [go_sem, seval, List.take_succ_cons, List.take_zero]; (repeat refine And.intro (by omega) ?_); refine own_go (hqi (by omega)) [0, 1] rfl ?_ ?_ rfl ?_ <;> try simp (maxSteps := 4000000) only [go_sem, seval, Nat.lt_irrefl] <;> try decide)
 | refine awp_seqK ?_
 | refine kt ?_
 | refine And.intro ?_ ?_
 | ((first | refine awp_stp rfl ?_ | refine awp_draw (by kernel_rfl) (by kernel_rfl) ?_ | refine Imp.le2 ?_ | refine go_split (fun _h => ?_) (fun _h => ?_)) <;> try simp (maxSteps := 4000000) only [go_sem, seval])
 | intro _h
 | refine awp_block ?_
 | refine awp_scope ?_
 | refine cond_b ?_ ?_
 | (show heapOK _ _ = true; kernel_rfl)
 | (show heapOK2 _ _ = true; kernel_rfl)
 | (omega)))
    · exact idxOf_some (by omega) ‹_› hj
    · refine ⟨i + 1, ⟨by omega, fun j hji => ?_⟩, by omega, .le2 ?_⟩
      · rcases Nat.lt_succ_iff_lt_or_eq.1 hji with h | rfl
        · exact hj j h
        · assumption
      · simp (maxSteps := 4000000) only [go_sem, seval]
        omega
    · exact idxOf_none (d := []) (fun j hjl => hj j (by omega))
theorem hasA_Co (m : Int) (l : List (List Bed)) (q : List Bed → Bool) (hl : l.length ≤ 1000000) (hq : ∀ i, i < l.length → SemF Try.prog 76 [slB (l.getD i []), .ptr 1 0 0] [some (.cells 3 1 0 [.int .i64 m]), some (.cells 130 1 0 [.fn (.func 60) [] [.ptr 0 0 0]])] (.bool (q (l.getD i []))) [some (.cells 3 1 0 [.int .i64 m]), some (.cells 130 1 0 [.fn (.func 60) [] [.ptr 0 0 0]])]) :
    SemF Try.prog 75 [slC l, .fn (.func 76) [] [.ptr 1 0 0]] [some (.cells 3 1 0 [.int .i64 m]), some (.cells 130 1 0 [.fn (.func 60) [] [.ptr 0 0 0]])] (.bool (l.any q)) [some (.cells 3 1 0 [.int .i64 m]), some (.cells 130 1 0 [.fn (.func 60) [] [.ptr 0 0 0]])] := by
  have h := idxA_Co (hq := hq) (hl := hl)
  rw [← idxOf_ge]
  simp only [slB, slC] at h ⊢
  (refine semF_of_awp (ys := [.bool (decide (0 ≤ idxOf q l))]) (fun w args => Try.call75 ..) Try.func75 rfl (fun w0 m0 wz => ?_); simp only [Try.ntmps75, Try.results75, initT, junks, sl, List.toList_toArray, List.cons_append, List.nil_append, List.length_cons, List.length_nil, Nat.reduceAdd, Nat.reduceSub])
  (repeat' (first
 | (refine awp_ownN 2 rfl ?_; simp (maxSteps := 4000000) only [go_sem, seval, List.take_succ_cons, List.take_zero]; (repeat refine And.intro (by omega) ?_); refine own_go (h) [0, 1] rfl ?_ ?_ rfl ?_ <;> try simp (maxSteps := 4000000) only [go_sem, seval, Nat.lt_irrefl] <;> try decide)
 | refine awp_seqK ?_
 | refine kt ?_
 | refine And.intro ?_ ?_
 | ((first | refine awp_stp rfl ?_ | refine awp_draw (by kernel_rfl) (by kernel_rfl) ?_ | refine Imp.le2 ?_ | refine go_split (fun _h => ?_) (fun _h => ?_)) <;> try simp (maxSteps := 4000000) only [go_sem, seval])
 | intro _h
 | refine awp_block ?_
 | refine awp_scope ?_
 | refine cond_b ?_ ?_
 | (show heapOK _ _ = true; kernel_rfl)
 | (show heapOK2 _ _ = true; kernel_rfl)
 | (omega))) <;> simp [*]
theorem all_Co (m : Int) (l : List (List Bed)) (q : List Bed → Bool) (hl : l.length ≤ 1000000) (hq : ∀ i, i < l.length → SemF Try.prog 60 ([slB (l.getD i [])] ++ [.ptr 0 0 0]) [some (.cells 3 1 0 [.int .i64 m])] (.bool (q (l.getD i []))) [some (.cells 3 1 0 [.int .i64 m])]) :
    SemF Try.prog 59 [slC l, .fn (.func 60) [] [.ptr 0 0 0]] [some (.cells 3 1 0 [.int .i64 m])] (.bool (l.all q)) [some (.cells 3 1 0 [.int .i64 m])] := by
  have hany : l.all q = !l.any (fun x => !q x) := by simp [List.all_eq_not_any_not]
  rw [hany]
  have h := hasA_Co (l := l) (q := fun x => !q x) (hl := hl) (hq := fun i hi => allA_Co (x := l.getD i []) (q := q (l.getD i [])) (hq := hq i hi))
  simp only [slB, slC] at h ⊢
  (refine semF_of_awp (ys := [.bool (!l.any (fun x => !q x))]) (fun w args => Try.call59 ..) Try.func59 rfl (fun w0 m0 wz => ?_); simp only [Try.ntmps59, Try.results59, initT, junks, sl, List.toList_toArray, List.cons_append, List.nil_append, List.length_cons, List.length_nil, Nat.reduceAdd, Nat.reduceSub])
  (repeat' (first
 | (refine awp_ownN 2 rfl ?_; simp (maxSteps := 4000000) only [go_sem, seval, List.take_succ_cons, List.take_zero]; (repeat refine And.intro (by omega) ?_); refine own_go (h) [0, 1] rfl ?_ ?_ rfl ?_ <;> try simp (maxSteps := 4000000) only [go_sem, seval, Nat.lt_irrefl] <;> try decide)
 | refine awp_seqK ?_
 | refine kt ?_
 | refine And.intro ?_ ?_
 | ((first | refine awp_stp rfl ?_ | refine awp_draw (by kernel_rfl) (by kernel_rfl) ?_ | refine Imp.le2 ?_ | refine go_split (fun _h => ?_) (fun _h => ?_)) <;> try simp (maxSteps := 4000000) only [go_sem, seval])
 | intro _h
 | refine awp_block ?_
 | refine awp_scope ?_
 | refine cond_b ?_ ?_
 | (show heapOK _ _ = true; kernel_rfl)
 | (show heapOK2 _ _ = true; kernel_rfl)
 | (omega))) <;> simp only [*, Bool.not_true, Bool.not_false]
theorem idx_Pa (l : List (Parc)) (g : FuncId) (fv : AV) (q : Parc → Bool) (hl : l.length ≤ 9223372036854775807) (hq : ∀ i, i < l.length → CallS Try.prog g [.agg (parcC (l.getD i default)), .pptr [fv] 0] (.bool (q (l.getD i default)))) :
    CallS Try.prog 83 [slP l, .fn (.func g) [] [.pptr [fv] 0]] (.int .i64 (idxOf q l)) := by
  simp only [parcC] at hq
  (refine callS_of_awp (fun w args => Try.call83 ..) Try.func83 rfl (fun w0 m0 wz => ?_); simp only [Try.ntmps83, Try.results83, initT, junks, sl, List.toList_toArray, List.cons_append, List.nil_append, List.length_cons, List.length_nil, Nat.reduceAdd, Nat.reduceSub])
  (repeat' (first
 | refine awp_seqK ?_
 | refine kt ?_
 | refine And.intro ?_ ?_
 | ((first | refine awp_stp rfl ?_ | refine awp_draw (by kernel_rfl) (by kernel_rfl) ?_ | refine Imp.le2 ?_ | refine go_split (fun _h => ?_) (fun _h => ?_)) <;> try simp (maxSteps := 4000000) only [go_sem, seval])
 | intro _h
 | refine awp_block ?_
 | refine awp_scope ?_
 | refine cond_b ?_ ?_
 | (show heapOK _ _ = true; kernel_rfl)
 | (show heapOK2 _ _ = true; kernel_rfl)
 | (omega)))
  refine awp_loopJ (fun i : Nat => i ≤ l.length ∧ ∀ j, j < i → q (l.getD j default) = false) (fun i => ⟨mkT 19 [(0, slP l), (1, .fn (.func g) [] [.pptr [fv] 0]), (6, slP l), (7, .int .i64 l.length), (8, .int .i64 i)], [], []⟩) (fun i => l.length - i) 0 ⟨Nat.zero_le _, by simp⟩ (.le2 ?_) ?_
  · simp (maxSteps := 4000000) only [go_sem, seval]
  · rintro i ⟨hi, hj⟩
    simp (maxSteps := 4000000) only [go_sem, seval]
    (repeat' (first
 | refine awp_seqK ?_
 | refine kt ?_
 | refine And.intro ?_ ?_
 | ((first | refine awp_stp rfl ?_ | refine awp_draw (by kernel_rfl) (by kernel_rfl) ?_ | refine Imp.le2 ?_ | refine callK_of (hq i (by omega)) ?_ | refine go_split (fun _h => ?_) (fun _h => ?_)) <;> try simp (maxSteps := 4000000) only [go_sem, seval])
 | intro _h
 | refine awp_block ?_
 | refine awp_scope ?_
 | refine cond_b ?_ ?_
 | (show heapOK _ _ = true; kernel_rfl)
 | (show heapOK2 _ _ = true; kernel_rfl)
 | (omega)))
    · exact idxOf_some (by omega) ‹_› hj
    · refine ⟨i + 1, ⟨by omega, fun j hji => ?_⟩, by omega, .le2 ?_⟩
      · rcases Nat.lt_succ_iff_lt_or_eq.1 hji with h | rfl
        · exact hj j h
        · assumption
      · simp (maxSteps := 4000000) only [go_sem, seval]
        all_goals omega
    · exact idxOf_none (d := default) (fun j hjl => hj j (by omega))
theorem has_Pa (l : List (Parc)) (g : FuncId) (fv : AV) (q : Parc → Bool) (hl : l.length ≤ 9223372036854775807) (hq : ∀ i, i < l.length → CallS Try.prog g [.agg (parcC (l.getD i default)), .pptr [fv] 0] (.bool (q (l.getD i default)))) :
    CallS Try.prog 69 [slP l, .fn (.func g) [] [.pptr [fv] 0]] (.bool (l.any q)) := by
  rw [← idxOf_ge]
  (refine callS_of_awp (fun w args => Try.call69 ..) Try.func69 rfl (fun w0 m0 wz => ?_); simp only [Try.ntmps69, Try.results69, initT, junks, sl, List.toList_toArray, List.cons_append, List.nil_append, List.length_cons, List.length_nil, Nat.reduceAdd, Nat.reduceSub])
  (repeat' (first
 | refine awp_seqK ?_
 | refine kt ?_
 | refine And.intro ?_ ?_
 | ((first | refine awp_stp rfl ?_ | refine awp_draw (by kernel_rfl) (by kernel_rfl) ?_ | refine Imp.le2 ?_ | refine callK_of (idx_Pa l g fv q hl hq) ?_ | refine go_split (fun _h => ?_) (fun _h => ?_)) <;> try simp (maxSteps := 4000000) only [go_sem, seval])
 | intro _h
 | refine awp_block ?_
 | refine awp_scope ?_
 | refine cond_b ?_ ?_
 | (show heapOK _ _ = true; kernel_rfl)
 | (show heapOK2 _ _ = true; kernel_rfl)
 | (omega)))
theorem all1_Pa (s : Parc) (r : AV) (f : FuncId)  (q : Bool) (hr : r = .fn (.func f) [] []) (hq : CallS Try.prog f [.agg (parcC s)] (.bool q)) : CallS Try.prog 70 [.agg (parcC s), .pptr [r] 0] (.bool (!q)) := by
  subst hr
  simp only [parcC] at hq ⊢
  (refine callS_of_awp (fun w args => Try.call70 ..) Try.func70 rfl (fun w0 m0 wz => ?_); simp only [Try.ntmps70, Try.results70, initT, junks, sl, List.toList_toArray, List.cons_append, List.nil_append, List.length_cons, List.length_nil, Nat.reduceAdd, Nat.reduceSub])
  (repeat' (first
 | refine awp_seqK ?_
 | refine kt ?_
 | refine And.intro ?_ ?_
 | ((first | refine awp_stp rfl ?_ | refine awp_draw (by kernel_rfl) (by kernel_rfl) ?_ | refine Imp.le2 ?_ | refine callK_of (hq) ?_ | refine go_split (fun _h => ?_) (fun _h => ?_)) <;> try simp (maxSteps := 4000000) only [go_sem, seval])
 | intro _h
 | refine awp_block ?_
 | refine awp_scope ?_
 | refine cond_b ?_ ?_
 | (show heapOK _ _ = true; kernel_rfl)
 | (show heapOK2 _ _ = true; kernel_rfl)
 | (omega))) <;> first | simp only [*, Bool.not_true, Bool.not_false] | trace_state
theorem all_Pa (l : List (Parc)) (f : FuncId)  (q : Parc → Bool) (hl : l.length ≤ 9223372036854775807) (hq : ∀ i, i < l.length → CallS Try.prog f [.agg (parcC (l.getD i default))] (.bool (q (l.getD i default)))) :
    CallS Try.prog 53 [slP l, .fn (.func f) [] []] (.bool (l.all q)) := by
  have hany : l.all q = !l.any (fun x => !q x) := by simp [List.all_eq_not_any_not]
  rw [hany]
  (refine callS_of_awp (fun w args => Try.call53 ..) Try.func53 rfl (fun w0 m0 wz => ?_); simp only [Try.ntmps53, Try.results53, initT, junks, sl, List.toList_toArray, List.cons_append, List.nil_append, List.length_cons, List.length_nil, Nat.reduceAdd, Nat.reduceSub])
  ((repeat refine awp_seqK ?_); refine awp_region ?_; simp (maxSteps := 4000000) only [go_sem, seval]; refine kt ?_)
  (refine awp_frz 0 rfl (by simp (maxSteps := 4000000) only [go_sem, seval]) (fun _ => rfl) ?_; simp only [frz, fzl, fz2, fz1, fz0, fzH, fzHs, fzO, fzB, List.map_cons, List.map_nil, if_true, if_false, reduceIte, Nat.reduceEqDiff, Nat.reduceAdd, Nat.succ_ne_self, Nat.zero_ne_one, Nat.one_ne_zero, reduceCtorEq, and_self])
  (repeat' (first
 | refine awp_seqK ?_
 | refine kt ?_
 | refine And.intro ?_ ?_
 | ((first | refine awp_stp rfl ?_ | refine awp_draw (by kernel_rfl) (by kernel_rfl) ?_ | refine Imp.le2 ?_ | refine callK_of (has_Pa l 70 (.fn (.func f) [] []) (fun x => !q x) hl (fun i hi => all1_Pa _ _ _ _ rfl (hq i hi))) ?_ | refine go_split (fun _h => ?_) (fun _h => ?_)) <;> try simp (maxSteps := 4000000) only [go_sem, seval])
 | intro _h
 | refine awp_block ?_
 | refine awp_scope ?_
 | refine cond_b ?_ ?_
 | (show heapOK _ _ = true; kernel_rfl)
 | (show heapOK2 _ _ = true; kernel_rfl)
 | (omega))) <;> simp only [*, Bool.not_true, Bool.not_false]
theorem allA_Sd (v : Valley) (x : Slid) (q : Bool) (hq : CallS Try.prog 56 [.agg (valC v), .agg (slidC x)] (.bool q)) : SemF Try.prog 72 [.agg (slidC x), .ptr 0 0 0] [some (.cells 122 1 0 [.fn (.func 56) [.agg (valC v)] []])] (.bool (!q)) [some (.cells 122 1 0 [.fn (.func 56) [.agg (valC v)] []])] := by
  simp only [slidC, slS, valC, slP, sl] at hq ⊢
  (refine semF_of_awp (ys := [.bool (!q)]) (fun w args => Try.call72 ..) Try.func72 rfl (fun w0 m0 wz => ?_); simp only [Try.ntmps72, Try.results72, initT, junks, sl, List.toList_toArray, List.cons_append, List.nil_append, List.length_cons, List.length_nil, Nat.reduceAdd, Nat.reduceSub])
  (repeat' (first
 | refine awp_seqK ?_
 | refine kt ?_
 | refine And.intro ?_ ?_
 | ((first | refine awp_stp rfl ?_ | refine awp_draw (by kernel_rfl) (by kernel_rfl) ?_ | refine Imp.le2 ?_ | refine callK_of (hq) ?_ | refine go_split (fun _h => ?_) (fun _h => ?_)) <;> try simp (maxSteps := 4000000) only [go_sem, seval])
 | intro _h
 | refine awp_block ?_
 | refine awp_scope ?_
 | refine cond_b ?_ ?_
 | (show heapOK _ _ = true; kernel_rfl)
 | (show heapOK2 _ _ = true; kernel_rfl)
 | (omega))) <;> simp [*]
theorem idxA_Sd (v : Valley) (l : List (Slid)) (q : Slid → Bool) (hl : l.length ≤ 1000000) (hq : ∀ i, i < l.length → SemF Try.prog 72 [.agg (slidC (l.getD i default)), .ptr 0 0 0] [some (.cells 122 1 0 [.fn (.func 56) [.agg (valC v)] []])] (.bool (q (l.getD i default))) [some (.cells 122 1 0 [.fn (.func 56) [.agg (valC v)] []])]) :
    SemF Try.prog 84 [slS l, .fn (.func 72) [] [.ptr 0 0 0]] [some (.cells 122 1 0 [.fn (.func 56) [.agg (valC v)] []])] (.int .i64 (idxOf q l)) [some (.cells 122 1 0 [.fn (.func 56) [.agg (valC v)] []])] := by
  simp only [slidC, slS, valC, slP, sl] at hq ⊢
  (refine semF_of_awp (ys := [.int .i64 (idxOf q l)]) (fun w args => Try.call84 ..) Try.func84 rfl (fun w0 m0 wz => ?_); simp only [Try.ntmps84, Try.results84, initT, junks, sl, List.toList_toArray, List.cons_append, List.nil_append, List.length_cons, List.length_nil, Nat.reduceAdd, Nat.reduceSub])
  (repeat' (first
 | refine awp_seqK ?_
 | refine kt ?_
 | refine And.intro ?_ ?_
 | ((first | refine awp_stp rfl ?_ | refine awp_draw (by kernel_rfl) (by kernel_rfl) ?_ | refine Imp.le2 ?_ | refine go_split (fun _h => ?_) (fun _h => ?_)) <;> try simp (maxSteps := 4000000) only [go_sem, seval])
 | intro _h
 | refine awp_block ?_
 | refine awp_scope ?_
 | refine cond_b ?_ ?_
 | (show heapOK _ _ = true; kernel_rfl)
 | (show heapOK2 _ _ = true; kernel_rfl)
 | (omega)))
  refine awp_loopJ (fun i : Nat => i ≤ l.length ∧ ∀ j, j < i → q (l.getD j default) = false) (fun i => ⟨mkT 19 [(0, slS l), (1, .fn (.func 72) [] [.ptr 0 0 0]), (6, slS l), (7, .int .i64 l.length), (8, .int .i64 i)], [some (.cells 122 1 0 [.fn (.func 56) [.agg (valC v)] []])], []⟩) (fun i => l.length - i) 0 ⟨Nat.zero_le _, by simp⟩ (.le2 ?_) ?_
  · simp only [slidC, slS, valC, slP, sl]; simp (maxSteps := 4000000) only [go_sem, seval]
  · rintro i ⟨hi, hj⟩
    simp only [slidC, slS, valC, slP, sl]; simp (maxSteps := 4000000) only [go_sem, seval]
    have hqi := hq i
    (repeat' (first
 | (refine awp_ownN 5 rfl ?_; simp (maxSteps := 4000000) only [go_sem, seval, List.take_succ_cons, List.take_zero]; (repeat refine And.intro (by omega) ?_); refine own_go (hqi (by omega)) [0] rfl ?_ ?_ rfl ?_ <;> try simp (maxSteps := 4000000) only [go_sem, seval, Nat.lt_irrefl] <;> try decide)
 | refine awp_seqK ?_
 | refine kt ?_
 | refine And.intro ?_ ?_
 | ((first | refine awp_stp rfl ?_ | refine awp_draw (by kernel_rfl) (by kernel_rfl) ?_ | refine Imp.le2 ?_ | refine go_split (fun _h => ?_) (fun _h => ?_)) <;> try simp (maxSteps := 4000000) only [go_sem, seval])
 | intro _h
 | refine awp_block ?_
 | refine awp_scope ?_
 | refine cond_b ?_ ?_
 | (show heapOK _ _ = true; kernel_rfl)
 | (show heapOK2 _ _ = true; kernel_rfl)
 | (omega)))
    · exact idxOf_some (by omega) ‹_› hj
    · refine ⟨i + 1, ⟨by omega, fun j hji => ?_⟩, by omega, .le2 ?_⟩
      · rcases Nat.lt_succ_iff_lt_or_eq.1 hji with h | rfl
        · exact hj j h
        · assumption
      · simp (maxSteps := 4000000) only [go_sem, seval]
        omega
    · exact idxOf_none (d := default) (fun j hjl => hj j (by omega))
theorem hasA_Sd (v : Valley) (l : List (Slid)) (q : Slid → Bool) (hl : l.length ≤ 1000000) (hq : ∀ i, i < l.length → SemF Try.prog 72 [.agg (slidC (l.getD i default)), .ptr 0 0 0] [some (.cells 122 1 0 [.fn (.func 56) [.agg (valC v)] []])] (.bool (q (l.getD i default))) [some (.cells 122 1 0 [.fn (.func 56) [.agg (valC v)] []])]) :
    SemF Try.prog 71 [slS l, .fn (.func 72) [] [.ptr 0 0 0]] [some (.cells 122 1 0 [.fn (.func 56) [.agg (valC v)] []])] (.bool (l.any q)) [some (.cells 122 1 0 [.fn (.func 56) [.agg (valC v)] []])] := by
  have h := idxA_Sd (hq := hq) (hl := hl)
  rw [← idxOf_ge]
  simp only [slidC, slS, valC, slP, sl] at h ⊢
  (refine semF_of_awp (ys := [.bool (decide (0 ≤ idxOf q l))]) (fun w args => Try.call71 ..) Try.func71 rfl (fun w0 m0 wz => ?_); simp only [Try.ntmps71, Try.results71, initT, junks, sl, List.toList_toArray, List.cons_append, List.nil_append, List.length_cons, List.length_nil, Nat.reduceAdd, Nat.reduceSub])
  (repeat' (first
 | (refine awp_ownN 2 rfl ?_; simp (maxSteps := 4000000) only [go_sem, seval, List.take_succ_cons, List.take_zero]; (repeat refine And.intro (by omega) ?_); refine own_go (h) [0] rfl ?_ ?_ rfl ?_ <;> try simp (maxSteps := 4000000) only [go_sem, seval, Nat.lt_irrefl] <;> try decide)
 | refine awp_seqK ?_
 | refine kt ?_
 | refine And.intro ?_ ?_
 | ((first | refine awp_stp rfl ?_ | refine awp_draw (by kernel_rfl) (by kernel_rfl) ?_ | refine Imp.le2 ?_ | refine go_split (fun _h => ?_) (fun _h => ?_)) <;> try simp (maxSteps := 4000000) only [go_sem, seval])
 | intro _h
 | refine awp_block ?_
 | refine awp_scope ?_
 | refine cond_b ?_ ?_
 | (show heapOK _ _ = true; kernel_rfl)
 | (show heapOK2 _ _ = true; kernel_rfl)
 | (omega))) <;> simp [*]
theorem all_Sd (v : Valley) (l : List (Slid)) (q : Slid → Bool) (hl : l.length ≤ 1000000) (hq : ∀ i, i < l.length → CallS Try.prog 56 [.agg (valC v), .agg (slidC (l.getD i default))] (.bool (q (l.getD i default)))) :
    SemF Try.prog 55 [slS l, .fn (.func 56) [.agg (valC v)] []] [] (.bool (l.all q)) [] := by
  have hany : l.all q = !l.any (fun x => !q x) := by simp [List.all_eq_not_any_not]
  rw [hany]
  have h := hasA_Sd (l := l) (q := fun x => !q x) (hl := hl) (hq := fun i hi => allA_Sd (x := l.getD i default) (q := q (l.getD i default)) (hq := hq i hi))
  simp only [slidC, slS, valC, slP, sl] at h ⊢
  (refine semF_of_awp (ys := [.bool (!l.any (fun x => !q x))]) (fun w args => Try.call55 ..) Try.func55 rfl (fun w0 m0 wz => ?_); simp only [Try.ntmps55, Try.results55, initT, junks, sl, List.toList_toArray, List.cons_append, List.nil_append, List.length_cons, List.length_nil, Nat.reduceAdd, Nat.reduceSub])
  (repeat' (first
 | (refine awp_ownN 2 rfl ?_; simp (maxSteps := 4000000) only [go_sem, seval, List.take_succ_cons, List.take_zero]; (repeat refine And.intro (by omega) ?_); refine own_go (h) [0] rfl ?_ ?_ rfl ?_ <;> try simp (maxSteps := 4000000) only [go_sem, seval, Nat.lt_irrefl] <;> try decide)
 | refine awp_seqK ?_
 | refine kt ?_
 | refine And.intro ?_ ?_
 | ((first | refine awp_stp rfl ?_ | refine awp_draw (by kernel_rfl) (by kernel_rfl) ?_ | refine Imp.le2 ?_ | refine go_split (fun _h => ?_) (fun _h => ?_)) <;> try simp (maxSteps := 4000000) only [go_sem, seval])
 | intro _h
 | refine awp_block ?_
 | refine awp_scope ?_
 | refine cond_b ?_ ?_
 | (show heapOK _ _ = true; kernel_rfl)
 | (show heapOK2 _ _ = true; kernel_rfl)
 | (omega))) <;> simp only [*, Bool.not_true, Bool.not_false]
theorem mul_bd {a b A B : Int} (ha : 0 ≤ a ∧ a ≤ A) (hb : 0 ≤ b ∧ b ≤ B) : 0 ≤ a * b ∧ a * b ≤ A * B := by
  refine ⟨Int.mul_nonneg ha.1 hb.1, ?_⟩
  exact Int.mul_le_mul ha.2 hb.2 hb.1 (by omega)
theorem tdiv_bd {a b : Int} (ha : 0 ≤ a) (hb : 0 < b) : 0 ≤ a.tdiv b ∧ a.tdiv b ≤ a := by
  rw [Int.tdiv_eq_ediv_of_nonneg ha]
  refine ⟨Int.ediv_nonneg ha (by omega), Int.ediv_le_self _ ha⟩
def bedB (b : Bed) : Bool := decide ((-100000 ≤ b.drive ∧ b.drive ≤ 100000) ∧ (0 ≤ b.normal ∧ b.normal ≤ 100000) ∧ (0 ≤ b.f1 ∧ b.f1 ≤ b.f2 ∧ b.f2 ≤ 2000) ∧ (0 ≤ b.c1 ∧ b.c1 ≤ b.c2 ∧ b.c2 ≤ 100000) ∧ (0 ≤ b.w1 ∧ b.w1 ≤ b.w2 ∧ b.w2 ≤ 100000))
/-- A truth of a bed. -/
def InR (b : Bed) (x : Reals) : Prop := (b.f1 ≤ x.fr ∧ x.fr ≤ b.f2) ∧ (b.c1 ≤ x.co ∧ x.co ≤ b.c2) ∧ (b.w1 ≤ x.wa ∧ x.wa ≤ b.w2)
def holdV (b : Bed) (x : Reals) : Int := (max 0 (b.normal - x.wa) * x.fr).tdiv 1000 + x.co
theorem holdV_bd {b : Bed} {x : Reals} (hb : bedB b = true) (hx : InR b x) : (0 ≤ max 0 (b.normal - x.wa) * x.fr ∧ max 0 (b.normal - x.wa) * x.fr ≤ 200000000) ∧ 0 ≤ holdV b x ∧ holdV b x ≤ 300000 := by
  unfold bedB at hb
  have hb := of_decide_eq_true hb
  unfold InR at hx
  have h1 := mul_bd (a := max 0 (b.normal - x.wa)) (b := x.fr) (A := 100000) (B := 2000) ⟨by omega, by omega⟩ ⟨by omega, by omega⟩
  have h2 : (max 0 (b.normal - x.wa) * x.fr).tdiv 1000 = (max 0 (b.normal - x.wa) * x.fr) / 1000 := Int.tdiv_eq_ediv_of_nonneg h1.1
  unfold holdV
  rw [h2]
  generalize max 0 (b.normal - x.wa) * x.fr = q at *
  omega
theorem holds_c (b : Bed) (x : Reals) (hb : bedB b = true) (hx : InR b x) : CallS Try.prog 80 [.agg (bedC b), .agg (realC x)] (.int .i64 (holdV b x)) := by
  have h := holdV_bd hb hx
  have hb2 := of_decide_eq_true hb
  unfold InR at hx
  unfold holdV at h ⊢
  have hd : (max 0 (b.normal - x.wa) * x.fr).tdiv 1000 = (max 0 (b.normal - x.wa) * x.fr) / 1000 := Int.tdiv_eq_ediv_of_nonneg h.1.1
  obtain ⟨q, hq⟩ : ∃ q, max 0 (b.normal - x.wa) * x.fr = q := ⟨_, rfl⟩
  rw [hq] at h hd ⊢
  simp only [bedC, realC]
  (refine callS_of_awp (fun w args => Try.call80 ..) Try.func80 rfl (fun w0 m0 wz => ?_); simp only [Try.ntmps80, Try.results80, initT, junks, sl, List.toList_toArray, List.cons_append, List.nil_append, List.length_cons, List.length_nil, Nat.reduceAdd, Nat.reduceSub])
  (repeat' (first
 | ((omega))
 | refine awp_seqK ?_
 | refine kt ?_
 | refine And.intro ?_ ?_
 | ((first | refine awp_stp rfl ?_ | refine awp_draw (by kernel_rfl) (by kernel_rfl) ?_ | refine Imp.le2 ?_ | refine go_split (fun _h => ?_) (fun _h => ?_)) <;> try simp (maxSteps := 4000000) only [go_sem, seval, hq])
 | intro _h
 | refine awp_block ?_
 | refine awp_scope ?_
 | refine cond_b ?_ ?_
 | (show heapOK _ _ = true; kernel_rfl)
 | (show heapOK2 _ _ = true; kernel_rfl)
 | (omega)))
  all_goals trace_state
theorem Holds_c (b : Bed) (x : Reals) (hb : bedB b = true) (hx : InR b x) : CallS Try.prog 48 [.agg (bedC b), .agg (realC x)] (.int .i64 (holdV b x)) := by
  have h := holdV_bd hb hx
  have hb2 := of_decide_eq_true hb
  unfold InR at hx
  unfold holdV at h ⊢
  by_cases c : b.normal - x.wa < 0
  · have e : max 0 (b.normal - x.wa) = 0 := by omega
    rw [e] at h ⊢
    simp only [Int.zero_mul] at h ⊢
    simp only [bedC, realC]
    (refine callS_of_awp (fun w args => Try.call48 ..) Try.func48 rfl (fun w0 m0 wz => ?_); simp only [Try.ntmps48, Try.results48, initT, junks, sl, List.toList_toArray, List.cons_append, List.nil_append, List.length_cons, List.length_nil, Nat.reduceAdd, Nat.reduceSub])
    (repeat' (first
 | ((omega))
 | refine awp_seqK ?_
 | refine kt ?_
 | refine And.intro ?_ ?_
 | ((first | refine awp_stp rfl ?_ | refine awp_draw (by kernel_rfl) (by kernel_rfl) ?_ | refine Imp.le2 ?_ | refine go_split (fun _h => ?_) (fun _h => ?_)) <;> try simp (maxSteps := 4000000) only [go_sem, seval, eq_true c, decide_true, Int.zero_mul])
 | intro _h
 | refine awp_block ?_
 | refine awp_scope ?_
 | refine cond_b ?_ ?_
 | (show heapOK _ _ = true; kernel_rfl)
 | (show heapOK2 _ _ = true; kernel_rfl)
 | (omega)))
    all_goals trace_state
  · have e : max 0 (b.normal - x.wa) = b.normal - x.wa := by omega
    rw [e] at h ⊢
    have hd : ((b.normal - x.wa) * x.fr).tdiv 1000 = ((b.normal - x.wa) * x.fr) / 1000 := Int.tdiv_eq_ediv_of_nonneg h.1.1
    obtain ⟨q, hq⟩ : ∃ q, (b.normal - x.wa) * x.fr = q := ⟨_, rfl⟩
    rw [hq] at h hd ⊢
    simp only [bedC, realC]
    (refine callS_of_awp (fun w args => Try.call48 ..) Try.func48 rfl (fun w0 m0 wz => ?_); simp only [Try.ntmps48, Try.results48, initT, junks, sl, List.toList_toArray, List.cons_append, List.nil_append, List.length_cons, List.length_nil, Nat.reduceAdd, Nat.reduceSub])
    (repeat' (first
 | ((omega))
 | refine awp_seqK ?_
 | refine kt ?_
 | refine And.intro ?_ ?_
 | ((first | refine awp_stp rfl ?_ | refine awp_draw (by kernel_rfl) (by kernel_rfl) ?_ | refine Imp.le2 ?_ | refine go_split (fun _h => ?_) (fun _h => ?_)) <;> try simp (maxSteps := 4000000) only [go_sem, seval, eq_false c, decide_false, hq])
 | intro _h
 | refine awp_block ?_
 | refine awp_scope ?_
 | refine cond_b ?_ ?_
 | (show heapOK _ _ = true; kernel_rfl)
 | (show heapOK2 _ _ = true; kernel_rfl)
 | (omega)))
    all_goals trace_state
theorem bvalid_c (b : Bed) : CallS Try.prog 62 [.agg (bedC b)] (.bool (bedB b)) := by
  unfold bedB
  (refine callS_of_awp (fun w args => Try.call62 ..) Try.func62 rfl (fun w0 m0 wz => ?_); simp only [Try.ntmps62, Try.results62, initT, junks, sl, List.toList_toArray, List.cons_append, List.nil_append, List.length_cons, List.length_nil, Nat.reduceAdd, Nat.reduceSub])
  (repeat' (first
 | refine awp_seqK ?_
 | refine kt ?_
 | refine And.intro ?_ ?_
 | ((first | refine awp_stp rfl ?_ | refine awp_draw (by kernel_rfl) (by kernel_rfl) ?_ | refine Imp.le2 ?_ | refine callK_of (within_c _ _ _) ?_ | refine callK_of (up_c _ _ _) ?_ | refine go_split (fun _h => ?_) (fun _h => ?_)) <;> try simp (maxSteps := 4000000) only [go_sem, seval])
 | intro _h
 | refine awp_block ?_
 | refine awp_scope ?_
 | refine cond_b ?_ ?_
 | (show heapOK _ _ = true; kernel_rfl)
 | (show heapOK2 _ _ = true; kernel_rfl)
 | (omega)))
  all_goals ((try simp only [decide_eq_true_eq, decide_eq_false_iff_not]); simp_all; try omega)
/-- A slope that is valid. -/
structure SlopeOK (s : Slope) (m : Nat) : Prop where
  cn : 1 ≤ s.cols.length ∧ s.cols.length ≤ 12
  cm : 1 ≤ m ∧ m ≤ 5
  lst : 1 ≤ s.least ∧ s.least ≤ 4
  len : ∀ i, i < s.cols.length → (s.cols.getD i []).length = m
  ok : ∀ i, i < s.cols.length → (s.cols.getD i []).all bedB = true
theorem SlopeOK.bed {s : Slope} {m : Nat} (h : SlopeOK s m) {i j : Nat} (hi : i < s.cols.length) (hj : j < m) : bedB ((s.cols.getD i []).getD j default) = true := by
  have h1 := h.ok i hi
  rw [List.all_eq_true] at h1
  have h2 := h.len i hi
  refine h1 _ ?_
  have e : (s.cols.getD i []).getD j default = (s.cols.getD i [])[j]'(by omega) := by simp only [List.getD_eq_getElem?_getD (l := s.cols.getD i []), List.getElem?_eq_getElem (show j < (s.cols.getD i []).length by omega), Option.getD_some]
  rw [e]
  exact List.getElem_mem _
theorem valid1_c (l : List Bed) (m : Int) (hl : l.length ≤ 1000000) : SemF Try.prog 60 ([slB l] ++ [.ptr 0 0 0]) [some (.cells 3 1 0 [.int .i64 m])] (.bool (decide ((l.length : Int) = m) && l.all bedB)) [some (.cells 3 1 0 [.int .i64 m])] := by
  have ha := all_Bd l 62 bedB (by omega) (fun i _ => bvalid_c _)
  simp only [slB, List.cons_append, List.nil_append] at ha ⊢
  generalize l.all bedB = al at *
  by_cases c : (l.length : Int) = m
  · rw [decide_eq_true c, Bool.true_and]
    (refine semF_of_awp (ys := [.bool al]) (fun w args => Try.call60 ..) Try.func60 rfl (fun w0 m0 wz => ?_); simp only [Try.ntmps60, Try.results60, initT, junks, sl, List.toList_toArray, List.cons_append, List.nil_append, List.length_cons, List.length_nil, Nat.reduceAdd, Nat.reduceSub])
    (repeat' (first
 | refine awp_seqK ?_
 | refine kt ?_
 | refine And.intro ?_ ?_
 | ((first | refine awp_stp rfl ?_ | refine awp_draw (by kernel_rfl) (by kernel_rfl) ?_ | refine Imp.le2 ?_ | refine callK_of (ha) ?_ | refine go_split (fun _h => ?_) (fun _h => ?_)) <;> try simp (maxSteps := 4000000) only [go_sem, seval, eq_true c, decide_true])
 | intro _h
 | refine awp_block ?_
 | refine awp_scope ?_
 | refine cond_b ?_ ?_
 | (show heapOK _ _ = true; kernel_rfl)
 | (show heapOK2 _ _ = true; kernel_rfl)
 | (omega)))
    all_goals first | rfl | simp_all | trace_state
  · rw [decide_eq_false c, Bool.false_and]
    (refine semF_of_awp (ys := [.bool false]) (fun w args => Try.call60 ..) Try.func60 rfl (fun w0 m0 wz => ?_); simp only [Try.ntmps60, Try.results60, initT, junks, sl, List.toList_toArray, List.cons_append, List.nil_append, List.length_cons, List.length_nil, Nat.reduceAdd, Nat.reduceSub])
    (repeat' (first
 | refine awp_seqK ?_
 | refine kt ?_
 | refine And.intro ?_ ?_
 | ((first | refine awp_stp rfl ?_ | refine awp_draw (by kernel_rfl) (by kernel_rfl) ?_ | refine Imp.le2 ?_ | refine callK_of (ha) ?_ | refine go_split (fun _h => ?_) (fun _h => ?_)) <;> try simp (maxSteps := 4000000) only [go_sem, seval, eq_false c, decide_false])
 | intro _h
 | refine awp_block ?_
 | refine awp_scope ?_
 | refine cond_b ?_ ?_
 | (show heapOK _ _ = true; kernel_rfl)
 | (show heapOK2 _ _ = true; kernel_rfl)
 | (omega)))
    all_goals trace_state
theorem valid_c (s : Slope) (m : Nat) (h : SlopeOK s m) : CallS Try.prog 40 [.agg (slopeC s)] (.bool true) := by
  have h1 := h.cn
  have h2 := h.cm
  have h3 := h.lst
  have h4 := h.len 0 (by omega)
  have ha := all_Co m s.cols (fun l => decide ((l.length : Int) = m) && l.all bedB) (by omega) (fun i hi => by have := h.len i hi; exact valid1_c _ _ (by omega))
  have hT : (s.cols.all fun l => decide ((l.length : Int) = m) && l.all bedB) = true := by
    rw [List.all_eq_true]
    intro x hx
    obtain ⟨i, hi, rfl⟩ := List.mem_iff_getElem.1 hx
    have e : s.cols.getD i [] = s.cols[i] := by simp [List.getD_eq_getElem?_getD, hi]
    have a1 := h.len i hi
    have a2 := h.ok i hi
    rw [e] at a1 a2
    rw [a2, Bool.and_true]
    exact decide_eq_true (by omega)
  rw [hT] at ha
  simp only [slopeC, slC] at ha ⊢
  have f1 : (1 ≤ (s.cols.length : Int) ∧ (s.cols.length : Int) ≤ 12) = True := eq_true (by omega)
  have f2 : (1 ≤ (m : Int) ∧ (m : Int) ≤ 5) = True := eq_true (by omega)
  have f3 : (1 ≤ s.least ∧ s.least ≤ 4) = True := eq_true h3
  (refine callS_of_awp (fun w args => Try.call40 ..) Try.func40 rfl (fun w0 m0 wz => ?_); simp only [Try.ntmps40, Try.results40, initT, junks, sl, List.toList_toArray, List.cons_append, List.nil_append, List.length_cons, List.length_nil, Nat.reduceAdd, Nat.reduceSub])
  (repeat' (first
 | (refine awp_ownN (id := 4) 3 rfl ?_; simp (maxSteps := 4000000) only [go_sem, seval, List.take_succ_cons, List.take_zero, f1, f2, f3, h4, decide_true, Bool.not_true])
 | (refine own_go (ha) [1] rfl ?_ ?_ rfl ?_ <;> try simp (maxSteps := 4000000) only [go_sem, seval, Nat.lt_irrefl, f1, f2, f3, h4, decide_true, Bool.not_true] <;> try decide)
 | ((omega))
 | refine awp_seqK ?_
 | refine kt ?_
 | refine And.intro ?_ ?_
 | ((first | refine awp_stp rfl ?_ | refine awp_draw (by kernel_rfl) (by kernel_rfl) ?_ | refine Imp.le2 ?_ | refine callK_of (within_c _ _ _) ?_ | refine go_split (fun _h => ?_) (fun _h => ?_)) <;> try simp (maxSteps := 4000000) only [go_sem, seval, f1, f2, f3, h4, decide_true, Bool.not_true])
 | intro _h
 | refine awp_block ?_
 | refine awp_scope ?_
 | refine cond_b ?_ ?_
 | (show heapOK _ _ = true; kernel_rfl)
 | (show heapOK2 _ _ = true; kernel_rfl)
 | (omega)))
  all_goals trace_state
theorem asked_c (s : Slope) (m : Nat) (fa : Int) (h : SlopeOK s m) (hf : 0 ≤ fa ∧ fa ≤ 10000) : CallS Try.prog 21 [.agg (slopeC s), .int .i64 fa] (.int .i64 0) := by
  have hv := valid_c s m h
  simp only [slopeC, slC] at hv ⊢
  have f1 : (0 ≤ fa ∧ fa ≤ 10000) = True := eq_true hf
  (refine callS_of_awp (fun w args => Try.call21 ..) Try.func21 rfl (fun w0 m0 wz => ?_); simp only [Try.ntmps21, Try.results21, initT, junks, sl, List.toList_toArray, List.cons_append, List.nil_append, List.length_cons, List.length_nil, Nat.reduceAdd, Nat.reduceSub])
  (repeat' (first
 | refine awp_seqK ?_
 | refine kt ?_
 | refine And.intro ?_ ?_
 | ((first | refine awp_stp rfl ?_ | refine awp_draw (by kernel_rfl) (by kernel_rfl) ?_ | refine Imp.le2 ?_ | refine callK_of (hv) ?_ | refine callK_of (within_c _ _ _) ?_ | refine go_split (fun _h => ?_) (fun _h => ?_)) <;> try simp (maxSteps := 4000000) only [go_sem, seval, f1, decide_true, Bool.not_true])
 | intro _h
 | refine awp_block ?_
 | refine awp_scope ?_
 | refine cond_b ?_ ?_
 | (show heapOK _ _ = true; kernel_rfl)
 | (show heapOK2 _ _ = true; kernel_rfl)
 | (omega)))
  all_goals trace_state
end Go.Am

/- Contracts of the slope functions: costs, beds beside, a map of what is known. -/
namespace Go.Am
open Go.RowKit Go.Proofs
attribute [local irreducible] AWP CallS Kt goK CallK stepK evOps SemF SemY Imp
set_option maxRecDepth 4000
set_option linter.unusedSimpArgs false
set_option linter.unusedVariables false
set_option maxHeartbeats 3200000
/-- A list of n elements, told by a function. -/
def tab {α : Type} (n : Nat) (f : Nat → α) : List α := (List.range n).map f
section
variable {α : Type} {n : Nat} {f g : Nat → α}
theorem tab_length : (tab n f).length = n := by simp [tab]
theorem tab_getD {j : Nat} {d : α} (h : j < n) : (tab n f).getD j d = f j := by simp [tab, List.getD_eq_getElem?_getD, h]
theorem tab_congr (h : ∀ j, j < n → f j = g j) : tab n f = tab n g := List.map_congr_left fun j hj => h j (by simpa using hj)
/-- One element in another's place. -/
def isp (l : List α) (j : Nat) (v : α) : List α := l.take j ++ v :: l.drop (j + 1)
theorem isp_set {l : List α} {j : Nat} {v : α} (h : j < l.length) : isp l j v = l.set j v := by rw [List.set_eq_take_append_cons_drop, if_pos h]; rfl
theorem isp_length {l : List α} {j : Nat} {v : α} (h : j < l.length) : (isp l j v).length = l.length := by rw [isp_set h, List.length_set]
theorem isp_getD {l : List α} {j k : Nat} {v d : α} (h : j < l.length) : (isp l j v).getD k d = if k = j then v else l.getD k d := by
  rw [isp_set h]
  simp only [List.getD_eq_getElem?_getD, List.getElem?_set]
  by_cases e : j = k
  · subst e; simp [h]
  · rw [if_neg e, if_neg (Ne.symm e)]
theorem isp_tab {j : Nat} {v : α} (h : j < n) : isp (tab n f) j v = tab n fun i => if i = j then v else f i := by
  rw [isp_set (by rw [tab_length]; exact h)]
  apply List.ext_getElem
  · simp [tab]
  · intro i a b
    simp only [tab, List.getElem_set, List.getElem_map, List.getElem_range]
    by_cases e : j = i
    · subst e; simp
    · rw [if_neg e, if_neg (Ne.symm e)]
theorem replicate_tab {a : α} : List.replicate n a = tab n fun _ => a := by
  apply List.ext_getElem
  · simp [tab]
  · intro i h1 h2; simp [tab]
end
/-- A list of bools, as cells. -/
def bools (l : List Bool) : List AV := l.map .bool
theorem bools_length {l : List Bool} : (bools l).length = l.length := by simp [bools]
theorem pl_bools {l : List Bool} : pureL (bools l) = True := by
  simp only [pureL, bools, List.mem_map, eq_iff_iff, iff_true]
  rintro _ ⟨a, _, rfl⟩; rfl
theorem al_bools {l : List Bool} {p : Nat → Bool} : (bools l).all (live2 p) = true := by
  simp only [bools, List.all_map, List.all_eq_true]
  intro z _; rfl
theorem nth_bools {l : List Bool} {j : Nat} {K : AV → Prop} : optK (nth (bools l) j) K = (j < l.length ∧ K (.bool (l.getD j false))) := by
  rw [← nth_is]
  simp only [bools, List.getElem?_map]
  by_cases h : j < l.length
  · simp [h, optK, List.getD_eq_getElem?_getD]
  · simp [h, optK]
theorem sp_bools {l : List Bool} {j : Nat} {b : Bool} : splice (bools l) j [.bool b] = bools (isp l j b) := by
  simp [splice, bools, isp, List.map_take, List.map_drop]
theorem sp_ints {l : List Int} {j : Nat} {v : Int} : splice (ints l) j [.int .i64 v] = ints (isp l j v) := by
  simp [splice, ints, isp, List.map_take, List.map_drop]
theorem rep_ints {n : Nat} {v : Int} : (List.replicate n [AV.int .i64 v]).flatten = ints (tab n fun _ => v) := by
  rw [← replicate_tab]
  induction n with
  | zero => rfl
  | succ n ih => rw [List.replicate_succ, List.flatten_cons, ih]; rfl
theorem rep_bools {n : Nat} {v : Bool} : (List.replicate n [AV.bool v]).flatten = bools (tab n fun _ => v) := by
  rw [← replicate_tab]
  induction n with
  | zero => rfl
  | succ n ih => rw [List.replicate_succ, List.flatten_cons, ih]; rfl
attribute [go_sem] bools_length pl_bools al_bools nth_bools sp_bools tab_length
attribute [go_sem] sp_ints
section
variable {κ ν : Type} [DecidableEq κ]
def gmC (eK : κ → AV) (eV : ν → AV) (m : List (κ × ν)) : List (AV × AV) := m.map fun e => (eK e.1, eV e.2)
def gmGet : List (κ × ν) → κ → Option ν
  | [], _ => none
  | e :: m, k => if e.1 = k then some e.2 else gmGet m k
def gmPut : List (κ × ν) → κ → ν → List (κ × ν)
  | [], k, v => [(k, v)]
  | e :: m, k, v => if e.1 = k then (k, v) :: m else e :: gmPut m k v
/-- Keys that a map finds. -/
def KeyE (eK : κ → AV) : Prop := ∀ a b v es, mapFind ((eK a, v) :: es) (eK b) = if a = b then some (some (0, v)) else (mapFind es (eK b)).map (·.map fun p => (p.1 + 1, p.2))
theorem gfind {eK : κ → AV} {eV : ν → AV} (he : KeyE eK) (k : κ) : ∀ m : List (κ × ν),
    (∃ i v, mapFind (gmC eK eV m) (eK k) = some (some (i, eV v)) ∧ gmGet m k = some v ∧ (∀ a, (gmC eK eV m).set i (eK k, eV a) = gmC eK eV (gmPut m k a))) ∨
    (mapFind (gmC eK eV m) (eK k) = some none ∧ gmGet m k = none ∧ (∀ a, gmC eK eV m ++ [(eK k, eV a)] = gmC eK eV (gmPut m k a)))
  | [] => .inr ⟨by simp [gmC, mapFind], rfl, fun a => rfl⟩
  | e :: m => by
    have hc : mapFind (gmC eK eV (e :: m)) (eK k) = if e.1 = k then some (some (0, eV e.2)) else (mapFind (gmC eK eV m) (eK k)).map (·.map fun p => (p.1 + 1, p.2)) := he _ _ _ _
    by_cases h : e.1 = k
    · refine .inl ⟨0, e.2, ?_, ?_, fun a => ?_⟩
      · rw [hc, if_pos h]
      · simp [gmGet, h]
      · simp [gmC, gmPut, h]
    · rcases gfind he k m with ⟨i, v, h1, h2, h3⟩ | ⟨h1, h2, h3⟩
      · refine .inl ⟨i + 1, v, ?_, by simp [gmGet, h, h2], fun a => ?_⟩
        · rw [hc, if_neg h, h1]; rfl
        · have := h3 a
          simp only [gmC, List.map_cons, gmPut, h, if_false, List.set_cons_succ] at this ⊢
          rw [this]
      · refine .inr ⟨?_, by simp [gmGet, h, h2], fun a => ?_⟩
        · rw [hc, if_neg h, h1]; rfl
        · have := h3 a
          simp only [gmC, List.map_cons, gmPut, h, if_false, List.cons_append] at this ⊢
          rw [this]
theorem mup_g {eK : κ → AV} {eV : ν → AV} (he : KeyE eK) {m : List (κ × ν)} {k : κ} {v : ν} {f : List (AV × AV) → Prop} : mupK (gmC eK eV m) (eK k) (eV v) f = f (gmC eK eV (gmPut m k v)) := by
  rcases gfind (eV := eV) he k m with ⟨i, w, h1, h2, h3⟩ | ⟨h1, h2, h3⟩
  · simp only [mupK, h1, h3]
  · simp only [mupK, h1, h3]
theorem mget_gs {eK : κ → AV} {eV : ν → AV} (he : KeyE eK) {m : List (κ × ν)} {k : κ} {v : ν} {z : AV} {f : AV → Bool → Prop} (h : gmGet m k = some v) : mgetK (gmC eK eV m) (eK k) z f = f (eV v) true := by
  rcases gfind (eV := eV) he k m with ⟨i, w, h1, h2, h3⟩ | ⟨h1, h2, h3⟩
  · rw [h] at h2; cases h2; simp only [mgetK, h1]
  · rw [h] at h2; cases h2
theorem mget_gn {eK : κ → AV} {eV : ν → AV} (he : KeyE eK) {m : List (κ × ν)} {k : κ} {z : AV} {f : AV → Bool → Prop} (h : gmGet m k = none) : mgetK (gmC eK eV m) (eK k) z f = f z false := by
  rcases gfind (eV := eV) he k m with ⟨i, w, h1, h2, h3⟩ | ⟨h1, h2, h3⟩
  · rw [h] at h2; cases h2
  · simp only [mgetK, h1]
end
abbrev Kmap := List ((Int × Int) × Int)
theorem gmGet_put {K : Kmap} {s s' : Int × Int} {n : Int} : gmGet (gmPut K s n) s' = if s = s' then some n else gmGet K s' := by
  induction K with
  | nil => simp [gmPut, gmGet]
  | cons e K ih =>
    simp only [gmPut]
    by_cases h : e.1 = s
    · subst h
      simp only [if_true, gmGet]
      by_cases h2 : e.1 = s'
      · simp [h2]
      · simp [h2]
    · rw [if_neg h]
      simp only [gmGet]
      by_cases h2 : e.1 = s'
      · subst h2; simp [Ne.symm h]
      · rw [if_neg h2, if_neg h2, ih]
def spC (s : Int × Int) : List AV := [.int .i64 s.1, .int .i64 s.2]
def kmC (m : Kmap) : List (AV × AV) := gmC (fun s : Int × Int => AV.agg (spC s)) (AV.int .i64) m
theorem al_km {q : Nat → Bool} {m : Kmap} : ((kmC m).all fun e => live2 q e.1 && live2 q e.2) = true := by
  simp only [kmC, gmC, List.all_map, List.all_eq_true]
  intro e _; rfl
theorem km_nil : kmC [] = [] := rfl
theorem rb_km {σ : Nat → Nat} {m : Kmap} : renB σ (.map (kmC m)) = .map (kmC m) := by
  simp only [renB, kmC, gmC, List.map_map]
  congr 1
theorem rf_km {p : Nat → Prop} {m : Kmap} : refsB p (.map (kmC m)) = True := by
  rw [eq_iff_iff, iff_true]
  simp only [refsB, kmC, gmC, List.mem_map]
  rintro _ ⟨e, _, rfl⟩
  simp [refs, refsL, spC]
theorem key_sp : KeyE (fun s : Int × Int => AV.agg (spC s)) := fun a b v es => by
  have e : scalEq (spC b) (spC a) = some (decide (a = b)) := by
    have h8 : ∀ {k : IntKind} {x y : Int} {xs ys : List AV}, scalEq (.int k x :: xs) (.int k y :: ys) = (scalEq xs ys).map (decide (x = y) && ·) := fun {k x y xs ys} => by simp only [scalEq, if_true]
    have h9 : scalEq [] [] = some true := rfl
    simp only [spC, h8, h9, Option.map_some, Bool.and_true, Option.some.injEq]
    rw [Bool.eq_iff_iff]
    simp only [Bool.and_eq_true, decide_eq_true_eq]
    obtain ⟨a0, a1⟩ := a
    obtain ⟨b0, b1⟩ := b
    simp only [Prod.mk.injEq]
    omega
  simp only [mapFind, e]
  by_cases h : a = b
  · simp [h]
  · simp [h]
theorem mup_sp {m : Kmap} {a b : Int} {v : Int} {f : List (AV × AV) → Prop} : mupK (kmC m) (.agg [.int .i64 a, .int .i64 b]) (.int .i64 v) f = f (kmC (gmPut m (a, b) v)) := mup_g (eK := fun s : Int × Int => AV.agg (spC s)) (eV := AV.int .i64) (k := (a, b)) key_sp
theorem mget_ks {m : Kmap} {a b : Int} {v : Int} {z : AV} {f : AV → Bool → Prop} (h : gmGet m (a, b) = some v) : mgetK (kmC m) (.agg [.int .i64 a, .int .i64 b]) z f = f (.int .i64 v) true := mget_gs (eK := fun s : Int × Int => AV.agg (spC s)) (eV := AV.int .i64) key_sp h
theorem mget_kn {m : Kmap} {a b : Int} {z : AV} {f : AV → Bool → Prop} (h : gmGet m (a, b) = none) : mgetK (kmC m) (.agg [.int .i64 a, .int .i64 b]) z f = f z false := mget_gn (eK := fun s : Int × Int => AV.agg (spC s)) (eV := AV.int .i64) key_sp h
attribute [go_sem] al_km km_nil rb_km rf_km mup_sp
theorem keyT {a b : Int} : keyOK Try.prog 135 (.agg [.int .i64 a, .int .i64 b]) := ⟨eqOK 135, tkb135⟩
/-- A truth for each bed: the function T of the program, tv in plain words. -/
structure TruthF (T : FuncId) (tv : Bed → Reals) : Prop where
  c : ∀ b, CallS Try.prog T [.agg (bedC b)] (.agg (realC (tv b)))
  ok : ∀ b, bedB b = true → InR b (tv b)
theorem truthM : TruthF 22 mostV := ⟨most_c, fun b hb => by
  have hb := of_decide_eq_true hb
  unfold InR mostV
  simp only
  omega⟩
theorem truthL : TruthF 46 leastV := ⟨least_c, fun b hb => by
  have hb := of_decide_eq_true hb
  unfold InR leastV
  simp only
  omega⟩
def lookC (s : Slope) (fa : Int) (T : FuncId) : List AV := [slC s.cols, .int .i64 s.least, .int .i64 fa, .fn (.func T) [] []]
def bedAt (s : Slope) (c b : Nat) : Bed := (s.cols.getD c []).getD b default
def costV (s : Slope) (fa : Int) (tv : Bed → Reals) (c b : Nat) : Int := 1000 * holdV (bedAt s c b) (tv (bedAt s c b)) - fa * (bedAt s c b).drive
theorem costV_bd {s : Slope} {m : Nat} {fa : Int} {T : FuncId} {tv : Bed → Reals} (h : SlopeOK s m) (ht : TruthF T tv) (hf : 0 ≤ fa ∧ fa ≤ 10000) {c b : Nat} (hc : c < s.cols.length) (hb : b < m) : (-1000000000 ≤ fa * (bedAt s c b).drive ∧ fa * (bedAt s c b).drive ≤ 1000000000) ∧ -2000000000 ≤ costV s fa tv c b ∧ costV s fa tv c b ≤ 2000000000 := by
  have h1 := h.bed hc hb
  have h2 := (holdV_bd h1 (ht.ok _ h1)).2
  have h3 := of_decide_eq_true h1
  unfold costV bedAt
  generalize (s.cols.getD c []).getD b default = bd at *
  have h4 : -1000000000 ≤ fa * bd.drive ∧ fa * bd.drive ≤ 1000000000 := by
    by_cases h0 : 0 ≤ bd.drive
    · have := mul_bd (a := fa) (b := bd.drive) (A := 10000) (B := 100000) hf ⟨h0, by omega⟩; omega
    · have := mul_bd (a := fa) (b := -bd.drive) (A := 10000) (B := 100000) hf ⟨by omega, by omega⟩
      rw [Int.mul_neg] at this; omega
  refine ⟨h4, ?_⟩
  generalize fa * bd.drive = q at *
  omega
theorem cost_c (s : Slope) (m : Nat) (fa : Int) (T : FuncId) (tv : Bed → Reals) (h : SlopeOK s m) (ht : TruthF T tv) (hf : 0 ≤ fa ∧ fa ≤ 10000) (c b : Nat) (hc : c < s.cols.length) (hb : b < m) :
    CallS Try.prog 63 [.agg (lookC s fa T), .int .i64 c, .int .i64 b] (.int .i64 (costV s fa tv c b)) := by
  have hbd := costV_bd h ht hf hc hb
  have h1 := h.bed hc hb
  have hl := h.len c hc
  have hn := h.cn
  have hm := h.cm
  have hho := holds_c _ _ h1 (ht.ok _ h1)
  have htc := ht.c ((s.cols.getD c []).getD b default)
  have hhb := (holdV_bd h1 (ht.ok _ h1)).2
  unfold costV bedAt at hbd ⊢
  obtain ⟨bd, hbe⟩ : ∃ bd, (s.cols.getD c []).getD b default = bd := ⟨_, rfl⟩
  rw [hbe] at hbd hho htc hhb ⊢
  generalize tv bd = x at *
  generalize holdV bd x = hv at *
  obtain ⟨q, hq⟩ : ∃ q, fa * bd.drive = q := ⟨_, rfl⟩
  rw [hq] at hbd ⊢
  simp only [lookC, slC, bedC, realC] at hho htc ⊢
  (refine callS_of_awp (fun w args => Try.call63 ..) Try.func63 rfl (fun w0 m0 wz => ?_); simp only [Try.ntmps63, Try.results63, initT, junks, sl, List.toList_toArray, List.cons_append, List.nil_append, List.length_cons, List.length_nil, Nat.reduceAdd, Nat.reduceSub])
  (repeat' (first
 | ((omega))
 | refine awp_seqK ?_
 | refine kt ?_
 | refine And.intro ?_ ?_
 | ((first | refine awp_stp rfl ?_ | refine awp_draw (by kernel_rfl) (by kernel_rfl) ?_ | refine Imp.le2 ?_ | refine callK_of (htc) ?_ | refine callK_of (hho) ?_ | refine go_split (fun _h => ?_) (fun _h => ?_)) <;> try simp (maxSteps := 4000000) only [go_sem, seval, hbe, bedC, hq, hl])
 | intro _h
 | refine awp_block ?_
 | refine awp_scope ?_
 | refine cond_b ?_ ?_
 | (show heapOK _ _ = true; kernel_rfl)
 | (show heapOK2 _ _ = true; kernel_rfl)
 | (omega)))
  all_goals trace_state
theorem beds_c (s : Slope) (m : Nat) (fa : Int) (T : FuncId) (h : SlopeOK s m) : CallS Try.prog 67 [.agg (lookC s fa T)] (.int .i64 m) := by
  have hn := h.cn
  have hl := h.len 0 (by omega)
  simp only [lookC, slC]
  (refine callS_of_awp (fun w args => Try.call67 ..) Try.func67 rfl (fun w0 m0 wz => ?_); simp only [Try.ntmps67, Try.results67, initT, junks, sl, List.toList_toArray, List.cons_append, List.nil_append, List.length_cons, List.length_nil, Nat.reduceAdd, Nat.reduceSub])
  (repeat' (first
 | ((omega))
 | refine awp_seqK ?_
 | refine kt ?_
 | refine And.intro ?_ ?_
 | ((first | refine awp_stp rfl ?_ | refine awp_draw (by kernel_rfl) (by kernel_rfl) ?_ | refine Imp.le2 ?_ | refine go_split (fun _h => ?_) (fun _h => ?_)) <;> try simp (maxSteps := 4000000) only [go_sem, seval, hl])
 | intro _h
 | refine awp_block ?_
 | refine awp_scope ?_
 | refine cond_b ?_ ?_
 | (show heapOK _ _ = true; kernel_rfl)
 | (show heapOK2 _ _ = true; kernel_rfl)
 | (omega)))
  all_goals trace_state
theorem next_c (s : Slope) (fa : Int) (T : FuncId) (b : Int) : SemF Try.prog 65 [.agg (lookC s fa T), .int .i64 b] [] (.fn (.func 81) [] [.ptr 1 0 0, .ptr 0 0 0]) [some (.cells 81 1 0 (lookC s fa T)), some (.cells 3 1 0 [.int .i64 b])] := by
  simp only [lookC, slC]
  (refine semF_of_awp (ys := [.fn (.func 81) [] [.ptr 1 0 0, .ptr 0 0 0]]) (fun w args => Try.call65 ..) Try.func65 rfl (fun w0 m0 wz => ?_); simp only [Try.ntmps65, Try.results65, initT, junks, sl, List.toList_toArray, List.cons_append, List.nil_append, List.length_cons, List.length_nil, Nat.reduceAdd, Nat.reduceSub])
  (repeat' (first
 | refine awp_seqK ?_
 | refine kt ?_
 | refine And.intro ?_ ?_
 | ((first | refine awp_stp rfl ?_ | refine awp_draw (by kernel_rfl) (by kernel_rfl) ?_ | refine Imp.le2 ?_ | refine go_split (fun _h => ?_) (fun _h => ?_)) <;> try simp (maxSteps := 4000000) only [go_sem, seval])
 | intro _h
 | refine awp_block ?_
 | refine awp_scope ?_
 | refine cond_b ?_ ?_
 | (show heapOK _ _ = true; kernel_rfl)
 | (show heapOK2 _ _ = true; kernel_rfl)
 | (omega)))
  all_goals trace_state
end Go.Am

/- The cheapest way through a slope, in plain words. -/
namespace Go.Am
open Go.RowKit Go.Proofs
attribute [local irreducible] AWP CallS Kt goK CallK stepK evOps SemF SemY Imp
set_option maxRecDepth 4000
set_option linter.unusedSimpArgs false
set_option linter.unusedVariables false
set_option maxHeartbeats 3200000
/-- The beds beside a bed. -/
def nxL (m b : Nat) : List Nat := List.range' (b - 1) (min (m - 1) (b + 1) + 1 - (b - 1))
def foldR (f : Nat → Kmap → Int × Kmap) : List Nat → Int × Kmap → Int × Kmap
  | [], a => a
  | b :: l, a => foldR f l (min a.1 (f b a.2).1, (f b a.2).2)
def restM (cst : Nat → Nat → Int) (m : Nat) : Nat → Nat → Nat → Kmap → Int × Kmap
  | 0, c, b, K => (cst c b, K)
  | k + 1, c, b, K => match gmGet K ((c : Int), (b : Int)) with
    | some n => (n, K)
    | none => (cst c b + (foldR (restM cst m k (c + 1)) (nxL m b) (1000000000000000, K)).1, gmPut (foldR (restM cst m k (c + 1)) (nxL m b) (1000000000000000, K)).2 ((c : Int), (b : Int)) (cst c b + (foldR (restM cst m k (c + 1)) (nxL m b) (1000000000000000, K)).1))
def minL (f : Nat → Int) : List Nat → Int → Int
  | [], a => a
  | b :: l, a => minL f l (min a (f b))
def restV (cst : Nat → Nat → Int) (m : Nat) : Nat → Nat → Nat → Int
  | 0, c, b => cst c b
  | k + 1, c, b => cst c b + minL (restV cst m k (c + 1)) (nxL m b) 1000000000000000
theorem minL_le {f : Nat → Int} : ∀ (l : List Nat) (a : Int), minL f l a ≤ a ∧ ∀ x ∈ l, minL f l a ≤ f x
  | [], a => ⟨Int.le_refl _, fun x hx => by simp at hx⟩
  | b :: l, a => by
    obtain ⟨h1, h2⟩ := minL_le (f := f) l (min a (f b))
    simp only [minL]
    refine ⟨by omega, fun x hx => ?_⟩
    rcases List.mem_cons.1 hx with rfl | hx
    · omega
    · exact h2 x hx
theorem minL_att {f : Nat → Int} : ∀ (l : List Nat) (a : Int), minL f l a = a ∨ ∃ x ∈ l, minL f l a = f x
  | [], a => .inl rfl
  | b :: l, a => by
    simp only [minL]
    rcases minL_att (f := f) l (min a (f b)) with h | ⟨x, hx, h⟩
    · by_cases h2 : a ≤ f b
      · left; rw [h]; omega
      · right; exact ⟨b, by simp, by rw [h]; omega⟩
    · exact .inr ⟨x, by simp [hx], h⟩
theorem nxL_mem {m b x : Nat} (hb : b < m) : x ∈ nxL m b ↔ x < m ∧ x ≤ b + 1 ∧ b ≤ x + 1 := by
  unfold nxL
  rw [List.mem_range'_1]
  omega
theorem nxL_self {m b : Nat} (hb : b < m) : b ∈ nxL m b := (nxL_mem hb).2 ⟨hb, by omega, by omega⟩
def GoodK (cst : Nat → Nat → Int) (m to : Nat) (K : Kmap) : Prop := ∀ (c b : Nat) (v : Int), c ≤ to → gmGet K ((c : Int), (b : Int)) = some v → v = restV cst m (to - c) c b
theorem GoodK.nil {cst : Nat → Nat → Int} {m to : Nat} : GoodK cst m to [] := fun c b v _ e => by simp [gmGet] at e
theorem GoodK.put {cst : Nat → Nat → Int} {m to : Nat} {K : Kmap} {c b : Nat} {v : Int} (h : GoodK cst m to K) (hv : v = restV cst m (to - c) c b) : GoodK cst m to (gmPut K ((c : Int), (b : Int)) v) := fun c' b' v' hc e => by
  rw [gmGet_put] at e
  by_cases h2 : ((c : Int), (b : Int)) = ((c' : Int), (b' : Int))
  · rw [if_pos h2] at e
    simp only [Prod.mk.injEq] at h2
    have e1 : c = c' := by omega
    have e2 : b = b' := by omega
    subst e1; subst e2
    simp at e; omega
  · rw [if_neg h2] at e; exact h c' b' v' hc e
theorem foldR_good {G : Kmap → Prop} {f : Nat → Kmap → Int × Kmap} {g : Nat → Int} : ∀ (l : List Nat), (∀ b ∈ l, ∀ K, G K → (f b K).1 = g b ∧ G (f b K).2) → ∀ (a : Int × Kmap), G a.2 → (foldR f l a).1 = minL g l a.1 ∧ G (foldR f l a).2
  | [], _, a, h => ⟨rfl, h⟩
  | b :: l, hf, a, h => by
    obtain ⟨h1, h2⟩ := hf b (by simp) a.2 h
    have h3 := foldR_good l (fun b hb => hf b (by simp [hb])) (min a.1 (f b a.2).1, (f b a.2).2) h2
    simp only [foldR, minL]
    rw [h1] at h3
    rw [h1]
    exact h3
theorem restM_good {cst : Nat → Nat → Int} {m to : Nat} : ∀ (k c b : Nat) (K : Kmap), c + k = to → GoodK cst m to K → (restM cst m k c b K).1 = restV cst m k c b ∧ GoodK cst m to (restM cst m k c b K).2
  | 0, c, b, K, _, h => ⟨rfl, h⟩
  | k + 1, c, b, K, hk, h => by
    simp only [restM]
    cases hg : gmGet K ((c : Int), (b : Int)) with
    | some n =>
      refine ⟨?_, h⟩
      have := h c b n (by omega) hg
      rw [show to - c = k + 1 by omega] at this
      exact this
    | none =>
      obtain ⟨h1, h2⟩ := foldR_good (G := GoodK cst m to) (g := restV cst m k (c + 1)) (nxL m b) (fun b' _ K' hK' => restM_good k (c + 1) b' K' (by omega) hK') (1000000000000000, K) h
      have e : cst c b + (foldR (restM cst m k (c + 1)) (nxL m b) (1000000000000000, K)).1 = restV cst m (k + 1) c b := by rw [h1]; rfl
      refine ⟨e, h2.put ?_⟩
      rw [e, show to - c = k + 1 by omega]
/-- Costs that are told between bounds. -/
def CstOK (cst : Nat → Nat → Int) (n m : Nat) : Prop := ∀ c b, c < n → b < m → -2000000000 ≤ cst c b ∧ cst c b ≤ 2000000000
theorem restV_bd {cst : Nat → Nat → Int} {n m : Nat} (hc : CstOK cst n m) (hn : n ≤ 12) : ∀ (k c b : Nat), c + k < n → b < m → -2000000000 * ((k : Int) + 1) ≤ restV cst m k c b ∧ restV cst m k c b ≤ 2000000000 * ((k : Int) + 1)
  | 0, c, b, hk, hb => by
    have := hc c b (by omega) hb
    simp only [restV]; omega
  | k + 1, c, b, hk, hb => by
    have h0 := hc c b (by omega) hb
    have ih := fun b' (h : b' < m) => restV_bd hc hn k (c + 1) b' (by omega) h
    have h1 := (minL_le (f := restV cst m k (c + 1)) (nxL m b) 1000000000000000).2 b (nxL_self hb)
    have h2 := ih b hb
    simp only [restV]
    rcases minL_att (f := restV cst m k (c + 1)) (nxL m b) 1000000000000000 with h3 | ⟨x, hx, h3⟩
    · omega
    · have h4 := ih x ((nxL_mem hb).1 hx).1
      omega
def sumP (cst : Nat → Nat → Int) : Nat → List Nat → Int
  | _, [] => 0
  | c, b :: l => cst c b + sumP cst (c + 1) l
/-- Beds of neighbours beside each other. -/
def WayL (m : Nat) : List Nat → Prop
  | [] => True
  | [b] => b < m
  | b :: b' :: l => b < m ∧ (b' ≤ b + 1 ∧ b ≤ b' + 1) ∧ WayL m (b' :: l)
theorem WayL.hd {m b : Nat} {l : List Nat} (h : WayL m (b :: l)) : b < m := by
  cases l with
  | nil => exact h
  | cons a l => exact h.1
theorem restV_le {cst : Nat → Nat → Int} {m : Nat} : ∀ (k c b : Nat) (l : List Nat), l.length = k → WayL m (b :: l) → restV cst m k c b ≤ sumP cst c (b :: l)
  | 0, c, b, l, hl, hw => by
    have : l = [] := List.length_eq_zero_iff.1 hl
    subst this
    simp [restV, sumP]
  | k + 1, c, b, [], hl, hw => by simp at hl
  | k + 1, c, b, b' :: l, hl, hw => by
    have ih := restV_le (cst := cst) k (c + 1) b' l (by simpa using hl) hw.2.2
    have hb' : b' < m := hw.2.2.hd
    have h1 := (minL_le (f := restV cst m k (c + 1)) (nxL m b) 1000000000000000).2 b' ((nxL_mem hw.1).2 ⟨hb', hw.2.1.1, hw.2.1.2⟩)
    simp only [restV]
    show _ ≤ cst c b + sumP cst (c + 1) (b' :: l)
    omega
theorem restV_att {cst : Nat → Nat → Int} {n m : Nat} (hc : CstOK cst n m) (hn : n ≤ 12) : ∀ (k c b : Nat), c + k < n → b < m → ∃ l, l.length = k ∧ WayL m (b :: l) ∧ restV cst m k c b = sumP cst c (b :: l)
  | 0, c, b, hk, hb => ⟨[], rfl, hb, by simp [restV, sumP]⟩
  | k + 1, c, b, hk, hb => by
    have h1 := (minL_le (f := restV cst m k (c + 1)) (nxL m b) 1000000000000000).2 b (nxL_self hb)
    have h2 := restV_bd hc hn k (c + 1) b (by omega) hb
    rcases minL_att (f := restV cst m k (c + 1)) (nxL m b) 1000000000000000 with h3 | ⟨x, hx, h3⟩
    · omega
    · obtain ⟨hx1, hx2, hx3⟩ := (nxL_mem hb).1 hx
      obtain ⟨l, hl1, hl2, hl3⟩ := restV_att hc hn k (c + 1) x (by omega) hx1
      refine ⟨x :: l, by simp [hl1], ⟨hb, ⟨hx2, hx3⟩, hl2⟩, ?_⟩
      simp only [restV]
      rw [h3, hl3]; rfl
/-- What the cheapest surface costs. -/
def cheapV (cst : Nat → Nat → Int) (m a z : Nat) : Int := minL (restV cst m (z - a) a) (List.range m) 1000000000000000
theorem cheap_le {cst : Nat → Nat → Int} {m a : Nat} {l : List Nat} (hl : 0 < l.length) (hw : WayL m l) : cheapV cst m a (a + l.length - 1) ≤ sumP cst a l := by
  cases l with
  | nil => simp at hl
  | cons b l =>
    have h1 := restV_le (cst := cst) l.length a b l rfl hw
    have h2 := (minL_le (f := restV cst m l.length a) (List.range m) 1000000000000000).2 b (List.mem_range.2 hw.hd)
    unfold cheapV
    rw [show a + (b :: l).length - 1 - a = l.length by simp]
    omega
theorem cheap_att {cst : Nat → Nat → Int} {n m a z : Nat} (hc : CstOK cst n m) (hn : n ≤ 12) (ha : a ≤ z) (hz : z < n) (h : cheapV cst m a z < 0) : ∃ l, l.length = z - a + 1 ∧ WayL m l ∧ sumP cst a l < 0 := by
  unfold cheapV at h
  rcases minL_att (f := restV cst m (z - a) a) (List.range m) 1000000000000000 with h3 | ⟨x, hx, h3⟩
  · omega
  · obtain ⟨l, hl1, hl2, hl3⟩ := restV_att hc hn (z - a) a x (by omega) (List.mem_range.1 hx)
    exact ⟨x :: l, by simp [hl1], hl2, by rw [← hl3]; omega⟩
end Go.Am

/- Contracts of the slope functions: the cheapest way on from a bed, with a map of what is known. -/
namespace Go.Am
open Go.RowKit Go.Proofs
attribute [local irreducible] AWP CallS Kt goK CallK stepK evOps SemF SemY Imp
set_option maxRecDepth 4000
set_option linter.unusedSimpArgs false
set_option linter.unusedVariables false
set_option maxHeartbeats 3200000
def resH (s : Slope) (fa : Int) (T : FuncId) (to : Int) (K : Kmap) : List (Option ABlk) :=
  [some (.cells 3 1 0 [.int .i64 to]), some (.cells 132 1 0 [.fn (.func 63) [.agg (lookC s fa T)] []]), some (.cells 131 1 0 [.map 5]), some (.cells 81 1 0 (lookC s fa T)), some (.cells 133 1 0 [.fn (.func 64) [] [.ptr 0 0 0, .ptr 1 0 0, .ptr 2 0 0, .ptr 3 0 0, .ptr 4 0 0]]), some (.map (kmC K))]
def reH (s : Slope) (fa : Int) (T : FuncId) (to : Int) (c b : Int) (n : Int) (K : Kmap) : List (Option ABlk) :=
  resH s fa T to K ++ [some (.cells 135 1 0 [.int .i64 c, .int .i64 b]), some (.cells 3 1 0 [.int .i64 n]), some (.cells 81 1 0 (lookC s fa T)), some (.cells 3 1 0 [.int .i64 b])]
def reT : List AV := mkT 58 [(1, .ptr 0 0 0), (2, .ptr 1 0 0), (3, .ptr 2 0 0), (4, .ptr 3 0 0), (5, .ptr 4 0 0), (6, .ptr 6 0 0), (10, .ptr 7 0 0), (33, .fn (.func 81) [] [.ptr 9 0 0, .ptr 8 0 0])]
theorem rest_c (s : Slope) (m : Nat) (fa : Int) (T : FuncId) (tv : Bed → Reals) (h : SlopeOK s m) (ht : TruthF T tv) (hf : 0 ≤ fa ∧ fa ≤ 10000) (to : Nat) (hto : to < s.cols.length) : ∀ (k c b : Nat) (K : Kmap), c + k = to → b < m → GoodK (costV s fa tv) m to K →
    SemF Try.prog 64 [.agg [.int .i64 c, .int .i64 b], .ptr 0 0 0, .ptr 1 0 0, .ptr 2 0 0, .ptr 3 0 0, .ptr 4 0 0] (resH s fa T to K) (.int .i64 (restM (costV s fa tv) m k c b K).1) (resH s fa T to (restM (costV s fa tv) m k c b K).2) := by
  have hcst : CstOK (costV s fa tv) s.cols.length m := fun c b hc hb => (costV_bd h ht hf hc hb).2
  intro k
  induction k with
  | zero =>
    intro c b K hk hb hK
    have hco := cost_c s m fa T tv h ht hf c b (by omega) hb
    simp only [restM]
    have e0 : ((c : Int) = (to : Int)) = True := eq_true (by omega)
    simp only [resH, lookC, slC] at hco ⊢
    (refine semF_of_awp (ys := [.int .i64 (costV s fa tv c b)]) (fun w args => Try.call64 ..) Try.func64 rfl (fun w0 m0 wz => ?_); simp only [Try.ntmps64, Try.results64, initT, junks, sl, List.toList_toArray, List.cons_append, List.nil_append, List.length_cons, List.length_nil, Nat.reduceAdd, Nat.reduceSub])
    (repeat' (first
 | refine awp_seqK ?_
 | refine kt ?_
 | refine And.intro ?_ ?_
 | ((first | refine awp_stp rfl ?_ | refine awp_draw (by kernel_rfl) (by kernel_rfl) ?_ | refine Imp.le2 ?_ | refine callK_of (hco) ?_ | refine go_split (fun _h => ?_) (fun _h => ?_)) <;> try simp (maxSteps := 4000000) only [go_sem, seval, e0, decide_true])
 | intro _h
 | refine awp_block ?_
 | refine awp_scope ?_
 | refine cond_b ?_ ?_
 | (show heapOK _ _ = true; kernel_rfl)
 | (show heapOK2 _ _ = true; kernel_rfl)
 | (omega)))
    all_goals trace_state
  | succ k ih =>
    intro c b K hk hb hK
    have hco := cost_c s m fa T tv h ht hf c b (by omega) hb
    have hcb := (costV_bd h ht hf (c := c) (b := b) (by omega) hb).2
    have e0 : ((c : Int) = (to : Int)) = False := eq_false (by omega)
    cases hg : gmGet K ((c : Int), (b : Int)) with
    | some n =>
      have e : restM (costV s fa tv) m (k + 1) c b K = (n, K) := by simp only [restM]; rw [hg]
      rw [e]
      have hmg := fun z (f : AV → Bool → Prop) => mget_ks (z := z) (f := f) hg
      simp only [resH, lookC, slC] at hco hmg ⊢
      (refine semF_of_awp (ys := [.int .i64 n]) (fun w args => Try.call64 ..) Try.func64 rfl (fun w0 m0 wz => ?_); simp only [Try.ntmps64, Try.results64, initT, junks, sl, List.toList_toArray, List.cons_append, List.nil_append, List.length_cons, List.length_nil, Nat.reduceAdd, Nat.reduceSub])
      (repeat' (first
 | ((show zeroOK _ = true; rfl))
 | ((exact keyT))
 | refine awp_seqK ?_
 | refine kt ?_
 | refine And.intro ?_ ?_
 | ((first | refine awp_stp rfl ?_ | refine awp_draw (by kernel_rfl) (by kernel_rfl) ?_ | refine Imp.le2 ?_ | refine go_split (fun _h => ?_) (fun _h => ?_)) <;> try simp (maxSteps := 4000000) only [go_sem, seval, e0, decide_false, hmg])
 | intro _h
 | refine awp_block ?_
 | refine awp_scope ?_
 | refine cond_b ?_ ?_
 | (show heapOK _ _ = true; kernel_rfl)
 | (show heapOK2 _ _ = true; kernel_rfl)
 | (omega)))
      all_goals trace_state
    | none =>
      have hmg := fun z (f : AV → Bool → Prop) => mget_kn (z := z) (f := f) hg
      have hgood := foldR_good (G := GoodK (costV s fa tv) m to) (f := restM (costV s fa tv) m k (c + 1)) (g := restV (costV s fa tv) m k (c + 1)) (nxL m b) (fun b' _ K' hK' => restM_good k (c + 1) b' K' (by omega) hK') (1000000000000000, K) hK
      have e : restM (costV s fa tv) m (k + 1) c b K = (costV s fa tv c b + (foldR (restM (costV s fa tv) m k (c + 1)) (nxL m b) (1000000000000000, K)).1, gmPut (foldR (restM (costV s fa tv) m k (c + 1)) (nxL m b) (1000000000000000, K)).2 ((c : Int), (b : Int)) (costV s fa tv c b + (foldR (restM (costV s fa tv) m k (c + 1)) (nxL m b) (1000000000000000, K)).1)) := by simp only [restM]; rw [hg]
      rw [e]
      have hnx := next_c s fa T b
      have hbe := beds_c s m fa T h
      have hcm := h.cm
      have hcn := h.cn
      have hEb : -1000000000000 ≤ (foldR (restM (costV s fa tv) m k (c + 1)) (nxL m b) (1000000000000000, K)).1 ∧ (foldR (restM (costV s fa tv) m k (c + 1)) (nxL m b) (1000000000000000, K)).1 ≤ 1000000000000000 := by
        rw [hgood.1]
        simp only
        refine ⟨?_, (minL_le _ _).1⟩
        rcases minL_att (f := restV (costV s fa tv) m k (c + 1)) (nxL m b) 1000000000000000 with h3 | ⟨x, hx, h3⟩
        · omega
        · have h4 := restV_bd hcst hcn.2 k (c + 1) x (by omega) ((nxL_mem hb).1 hx).1
          omega
      clear hgood
      generalize hE : foldR (restM (costV s fa tv) m k (c + 1)) (nxL m b) (1000000000000000, K) = E at *
      obtain ⟨nE, KE⟩ := E
      simp only at hEb ⊢
      obtain ⟨cv, hcv⟩ : ∃ cv, costV s fa tv c b = cv := ⟨_, rfl⟩
      rw [hcv] at hco hcb ⊢
      have hmf := fun z (f : AV → Bool → Prop) => mget_ks (m := gmPut KE ((c : Int), (b : Int)) (cv + nE)) (a := c) (b := b) (v := cv + nE) (z := z) (f := f) (by rw [gmGet_put, if_pos rfl])
      simp only [resH, lookC, slC] at hco hmg hnx hmf ⊢
      (refine semF_of_awp (ys := [.int .i64 (cv + nE)]) (fun w args => Try.call64 ..) Try.func64 rfl (fun w0 m0 wz => ?_); simp only [Try.ntmps64, Try.results64, initT, junks, sl, List.toList_toArray, List.cons_append, List.nil_append, List.length_cons, List.length_nil, Nat.reduceAdd, Nat.reduceSub])
      (repeat' (first
 | ((show zeroOK _ = true; rfl))
 | ((exact keyT))
 | (refine awp_ownN (id := 7) 3 rfl ?_; simp (maxSteps := 4000000) only [go_sem, seval, List.take_succ_cons, List.take_zero, e0, decide_false, hmg])
 | (refine own_go (hnx) [] rfl ?_ ?_ rfl ?_ <;> try simp (maxSteps := 4000000) only [go_sem, seval, Nat.lt_irrefl, e0, decide_false, hmg] <;> try decide)
 | refine awp_seqK ?_
 | refine kt ?_
 | refine And.intro ?_ ?_
 | ((first | refine awp_stp rfl ?_ | refine awp_draw (by kernel_rfl) (by kernel_rfl) ?_ | refine Imp.le2 ?_ | refine go_split (fun _h => ?_) (fun _h => ?_)) <;> try simp (maxSteps := 4000000) only [go_sem, seval, e0, decide_false, hmg])
 | intro _h
 | refine awp_block ?_
 | refine awp_scope ?_
 | refine cond_b ?_ ?_
 | (show heapOK _ _ = true; kernel_rfl)
 | (show heapOK2 _ _ = true; kernel_rfl)
 | (omega)))
      refine AWP.le2 (s' := ⟨reT, reH s fa T to c b 1000000000000000 K, []⟩) (by simp only [reT, reH, resH, lookC, slC, List.cons_append, List.nil_append]; simp (maxSteps := 4000000) only [go_sem, seval]) ?_
      refine awp_rangeZ (gf := 81) (first := []) (caps := [.ptr 9 0 0, .ptr 8 0 0]) (by simp only [reT]; simp (maxSteps := 4000000) only [go_sem, seval]) 10 rfl ?_
      intro ca cb hca hcb2
      refine ⟨.tup [], reH s fa T to c b nE KE ++ [some (.dfr true), some (.loop .ready none 0 reT #[34] ca cb 10)], .ready, none, .normal, ?_, ?_, by simp, rfl, ?_⟩
      · simp only [reH, resH, reT, lookC, slC, List.cons_append, List.nil_append]
        simp (maxSteps := 4000000) only [go_sem, seval]
        (refine semF_of_awp (ys := []) (fun w args => Try.call81 ..) Try.func81 rfl (fun w0 m0 wz => ?_); simp only [Try.ntmps81, Try.results81, initT, junks, sl, List.toList_toArray, List.cons_append, List.nil_append, List.length_cons, List.length_nil, Nat.reduceAdd, Nat.reduceSub])
        (repeat' (first
 | refine awp_seqK ?_
 | refine kt ?_
 | refine And.intro ?_ ?_
 | ((first | refine awp_stp rfl ?_ | refine awp_draw (by kernel_rfl) (by kernel_rfl) ?_ | refine Imp.le2 ?_ | refine go_split (fun _h => ?_) (fun _h => ?_)) <;> try simp (maxSteps := 4000000) only [go_sem, seval])
 | intro _h
 | refine awp_block ?_
 | refine awp_scope ?_
 | refine cond_b ?_ ?_
 | (show heapOK _ _ = true; kernel_rfl)
 | (show heapOK2 _ _ = true; kernel_rfl)
 | (omega)))
        refine awp_loopJ (fun x : Nat × Int × Kmap => (b - 1 ≤ x.1 ∧ x.1 ≤ min (m - 1) (b + 1) + 1) ∧ (-1000000000000 ≤ x.2.1 ∧ x.2.1 ≤ 1000000000000000) ∧ GoodK (costV s fa tv) m to x.2.2 ∧ foldR (restM (costV s fa tv) m k (c + 1)) (List.range' x.1 (min (m - 1) (b + 1) + 1 - x.1)) x.2 = (nE, KE))
          (fun x => ⟨mkT 22 [(0, .fn (.yield 11) [] []), (1, .ptr 9 0 0), (2, .ptr 8 0 0), (4, .int .i64 x.1)], reH s fa T to c b x.2.1 x.2.2 ++ [some (.dfr true), some (.loop .ready none 0 reT #[34] ca cb 10)], []⟩) (fun x => min (m - 1) (b + 1) + 1 - x.1) (b - 1, 1000000000000000, K) ⟨⟨by simp only; omega, by simp only; omega⟩, by simp, hK, hE⟩ (.le2 ?_) ?_
        · have eb : max 0 ((b : Int) - 1) = ((b - 1 : Nat) : Int) := by omega
          simp only [eb, reH, resH, lookC, slC, List.cons_append, List.nil_append, reT]; simp (maxSteps := 4000000) only [go_sem, seval]
          all_goals first | rfl | exact ⟨rfl, rfl⟩ | trace_state
        · rintro ⟨i, n, K1⟩ ⟨⟨hi0, hi⟩, hn, hK1, hF⟩
          simp only at hi0 hi hn hK1 hF
          rcases Nat.lt_or_eq_of_le hi with hi1 | hi1
          · rw [show min (m - 1) (b + 1) + 1 - i = (min (m - 1) (b + 1) + 1 - (i + 1)) + 1 by omega, List.range'_succ] at hF
            simp only [foldR] at hF
            have him : i < m := by omega
            have hih := ih (c + 1) i K1 (by omega) him hK1
            obtain ⟨hg1, hg2⟩ := restM_good (cst := costV s fa tv) (m := m) (to := to) k (c + 1) i K1 (by omega) hK1
            have hvb := restV_bd hcst hcn.2 k (c + 1) i (by omega) him
            rw [← hg1] at hvb
            generalize restM (costV s fa tv) m k (c + 1) i K1 = R at *
            obtain ⟨v, K2⟩ := R
            simp only at hF hih hg1 hg2 hvb
            have e1 : ((i : Int) ≤ min ((m : Int) - 1) ((b : Int) + 1)) = True := eq_true (by omega)
            have e2 : ((c + 1 : Nat) : Int) = (c : Int) + 1 := by omega
            rw [e2] at hih
            simp only [reH, resH, reT, lookC, slC, List.cons_append, List.nil_append] at hih hbe ⊢
            simp (maxSteps := 4000000) only [go_sem, seval]
            (repeat' (first
 | ((exfalso; omega))
 | ((refine awp_ownN (id := 3) 2 rfl ?_; simp (maxSteps := 4000000) only [go_sem, seval, List.take_succ_cons, List.take_zero]; refine callH_yield true (reH s fa T to c b (min n v) K2 ++ [some (.dfr true), some (.loop .ready none 0 reT #[34] ca cb 10)]) ?_ ?_ <;> simp only [reH, resH, reT, lookC, slC, List.cons_append, List.nil_append] <;> (try simp (maxSteps := 4000000) only [go_sem, seval])))
 | ((omega))
 | refine awp_seqK ?_
 | refine kt ?_
 | refine And.intro ?_ ?_
 | ((first | refine awp_stp rfl ?_ | refine awp_draw (by kernel_rfl) (by kernel_rfl) ?_ | refine Imp.le2 ?_ | refine callK_of (hbe) ?_ | refine go_split (fun _h => ?_) (fun _h => ?_)) <;> try simp (maxSteps := 4000000) only [go_sem, seval, e1, decide_true])
 | intro _h
 | refine awp_block ?_
 | refine awp_scope ?_
 | refine cond_b ?_ ?_
 | (show heapOK _ _ = true; kernel_rfl)
 | (show heapOK2 _ _ = true; kernel_rfl)
 | (omega)))
            · refine semY_of_awpZ rfl rfl ?_
              intro B w0 l m w
              refine awp_code hca ?_
              (repeat' (first
 | refine awp_seqK ?_
 | refine kt ?_
 | refine And.intro ?_ ?_
 | ((first | refine awp_stp rfl ?_ | refine awp_draw (by kernel_rfl) (by kernel_rfl) ?_ | refine Imp.le2 ?_ | refine go_split (fun _h => ?_) (fun _h => ?_)) <;> try simp (maxSteps := 4000000) only [go_sem, seval])
 | intro _h
 | refine awp_block ?_
 | refine awp_scope ?_
 | refine cond_b ?_ ?_
 | (show heapOK _ _ = true; kernel_rfl)
 | (show heapOK2 _ _ = true; kernel_rfl)
 | (omega)))
              refine awp_code hcb2 ?_
              (repeat' (first
 | refine awp_seqK ?_
 | refine kt ?_
 | refine And.intro ?_ ?_
 | ((first | refine awp_stp rfl ?_ | refine Imp.le2 ?_ | refine go_split (fun _h => ?_) (fun _h => ?_)) <;> try simp (maxSteps := 4000000) only [go_sem, seval])
 | intro _h
 | refine awp_block ?_
 | refine awp_scope ?_
 | refine cond_b ?_ ?_
 | (show heapOK _ _ = true; kernel_rfl)
 | (show heapOK2 _ _ = true; kernel_rfl)
 | (omega)))
              ((repeat refine awp_seqK ?_); refine awp_draws [(7, [5])] (by kernel_rfl) (by kernel_rfl) ?_; simp (maxSteps := 4000000) only [go_sem, seval, sg_cons, sg_nil, List.take_succ_cons, List.take_zero, List.drop_succ_cons, List.drop_zero])
              refine And.intro (by omega) ?_
              (refine own_go (hih) [0, 1, 2, 3, 4, 5] rfl (by simp (maxSteps := 4000000) only [go_sem, seval]) (by simp (maxSteps := 4000000) only [go_sem, seval, Nat.lt_irrefl] <;> decide) rfl ?_; simp (maxSteps := 4000000) only [go_sem, seval]; refine And.intro (frm_of (by repeat (first | exact rfl | exact ⟨_, rfl⟩ | refine And.intro ?_ ?_))) ?_; try simp (maxSteps := 4000000) only [go_sem, seval, sg_cons, sg_nil, List.take_succ_cons, List.take_zero, List.drop_succ_cons, List.drop_zero])
              (repeat' (first
 | refine awp_seqK ?_
 | refine kt ?_
 | refine And.intro ?_ ?_
 | ((first | refine awp_stp rfl ?_ | refine awp_draw (by kernel_rfl) (by kernel_rfl) ?_ | refine Imp.le2 ?_ | refine callK_of (least2_c _ _ _) ?_ | refine go_split (fun _h => ?_) (fun _h => ?_)) <;> try simp (maxSteps := 4000000) only [go_sem, seval])
 | intro _h
 | refine awp_block ?_
 | refine awp_scope ?_
 | refine cond_b ?_ ?_
 | (show heapOK _ _ = true; kernel_rfl)
 | (show heapOK2 _ _ = true; kernel_rfl)
 | (omega)))
              all_goals trace_state
            · refine ⟨(i + 1, min n v, K2), ⟨⟨by simp only; omega, by simp only; omega⟩, by simp only; omega, hg2, hF⟩, by simp only; omega, .le2 ?_⟩
              simp only [reH, resH, reT, lookC, slC, List.cons_append, List.nil_append]; simp (maxSteps := 4000000) only [go_sem, seval]
              all_goals first | rfl | exact ⟨rfl, rfl⟩ | trace_state
          · rw [hi1, Nat.sub_self] at hF
            simp only [List.range'_zero, foldR, Prod.mk.injEq] at hF
            obtain ⟨rfl, rfl⟩ := hF
            have e1 : ((i : Int) ≤ min ((m : Int) - 1) ((b : Int) + 1)) = False := eq_false (by omega)
            simp only [reH, resH, reT, lookC, slC, List.cons_append, List.nil_append] at hbe ⊢
            simp (maxSteps := 4000000) only [go_sem, seval]
            (repeat' (first
 | ((exfalso; omega))
 | ((omega))
 | refine awp_seqK ?_
 | refine kt ?_
 | refine And.intro ?_ ?_
 | ((first | refine awp_stp rfl ?_ | refine awp_draw (by kernel_rfl) (by kernel_rfl) ?_ | refine Imp.le2 ?_ | refine callK_of (hbe) ?_ | refine go_split (fun _h => ?_) (fun _h => ?_)) <;> try simp (maxSteps := 4000000) only [go_sem, seval, e1, decide_false])
 | intro _h
 | refine awp_block ?_
 | refine awp_scope ?_
 | refine cond_b ?_ ?_
 | (show heapOK _ _ = true; kernel_rfl)
 | (show heapOK2 _ _ = true; kernel_rfl)
 | (omega)))
            all_goals first | rfl | exact ⟨rfl, rfl⟩ | trace_state
      · rfl
      · simp only [reH, resH, reT, lookC, slC, List.cons_append, List.nil_append]
        simp (maxSteps := 4000000) only [go_sem, seval]
        (repeat' (first
 | ((show zeroOK _ = true; rfl))
 | ((exact keyT))
 | ((omega))
 | refine awp_seqK ?_
 | refine kt ?_
 | refine And.intro ?_ ?_
 | ((first | refine awp_stp rfl ?_ | refine awp_draw (by kernel_rfl) (by kernel_rfl) ?_ | refine Imp.le2 ?_ | refine callK_of (hco) ?_ | refine go_split (fun _h => ?_) (fun _h => ?_)) <;> try simp (maxSteps := 4000000) only [go_sem, seval, hmf, gmGet_put])
 | intro _h
 | refine awp_block ?_
 | refine awp_scope ?_
 | refine cond_b ?_ ?_
 | (show heapOK _ _ = true; kernel_rfl)
 | (show heapOK2 _ _ = true; kernel_rfl)
 | (omega)))
        all_goals trace_state
end Go.Am
