/- Parts Tab, AlS, AlA, AlB, AlV, AlQ, AlN, AlC, AlD, AlO, AlP, AlR, BlA, BlB, BlC, BlD, BlE, BlF, BlG, BlH, BlI, BlJ, BlK, BlL, BlM, EsB, EsC of the proof, one behind the other. No statement is proved here. -/
import Derived.Test.YtnhikillgkneoaaE2
import Derived.Test.YtnhikillgkneoaaProg
import Derived.KernelRfl
import Derived.Test.YtnhikillgkneoaaE3
set_option linter.unusedVariables false -- all
set_option linter.unusedSimpArgs false
/- MADE BY A PROGRAM of ours (wip/tools/Tab): what the program's table says of the types that the walks meet. -/
namespace Go.Am
open Go.RowKit Go.Proofs
theorem tsz3 : tsz Try.prog 3 = some 1 := by kernel_rfl
theorem tagg3 : tagg Try.prog 3 = some false := by kernel_rfl
theorem tint3 : tint Try.prog 3 = some .i64 := by kernel_rfl
theorem tbytes3 : tbytes Try.prog 3 = some 8 := by kernel_rfl
theorem tzero3 : tzero Try.prog 3 = some [.int .i64 0] := by kernel_rfl
theorem tzv3 : tzv Try.prog 3 = some (.int .i64 0) := by kernel_rfl
theorem tsz4 : tsz Try.prog 4 = some 1 := by kernel_rfl
theorem tagg4 : tagg Try.prog 4 = some false := by kernel_rfl
theorem tzero4 : tzero Try.prog 4 = some [.bool false] := by kernel_rfl
theorem tsz5 : tsz Try.prog 5 = some 1 := by kernel_rfl
theorem tagg5 : tagg Try.prog 5 = some false := by kernel_rfl
theorem tund5 : (Try.prog.underlying 5).isSome = true := by kernel_rfl
theorem tsz22 : tsz Try.prog 22 = some 1 := by kernel_rfl
theorem tagg22 : tagg Try.prog 22 = some false := by kernel_rfl
theorem tslice22 : tslice Try.prog 22 = some 3 := by kernel_rfl
theorem tbytes22 : tbytes Try.prog 22 = some 24 := by kernel_rfl
theorem tzero22 : tzero Try.prog 22 = some [.nils] := by kernel_rfl
theorem tsz24 : tsz Try.prog 24 = some 6 := by kernel_rfl
theorem tagg24 : tagg Try.prog 24 = some true := by kernel_rfl
theorem tfld24_0 : tfld Try.prog 24 0 = some (0, 22) := by kernel_rfl
theorem tfld24_1 : tfld Try.prog 24 1 = some (1, 3) := by kernel_rfl
theorem tfld24_2 : tfld Try.prog 24 2 = some (2, 3) := by kernel_rfl
theorem tfld24_3 : tfld Try.prog 24 3 = some (3, 3) := by kernel_rfl
theorem tfld24_4 : tfld Try.prog 24 4 = some (4, 3) := by kernel_rfl
theorem tfld24_5 : tfld Try.prog 24 5 = some (5, 3) := by kernel_rfl
theorem tsz25 : tsz Try.prog 25 = some 1 := by kernel_rfl
theorem tagg25 : tagg Try.prog 25 = some false := by kernel_rfl
theorem tslice25 : tslice Try.prog 25 = some 64 := by kernel_rfl
theorem tsz26 : tsz Try.prog 26 = some 1 := by kernel_rfl
theorem tagg26 : tagg Try.prog 26 = some false := by kernel_rfl
theorem tslice26 : tslice Try.prog 26 = some 66 := by kernel_rfl
theorem tsz28 : tsz Try.prog 28 = some 2 := by kernel_rfl
theorem tagg28 : tagg Try.prog 28 = some true := by kernel_rfl
theorem tfld28_0 : tfld Try.prog 28 0 = some (0, 3) := by kernel_rfl
theorem tfld28_1 : tfld Try.prog 28 1 = some (1, 3) := by kernel_rfl
theorem tsz30 : tsz Try.prog 30 = some 5 := by kernel_rfl
theorem tagg30 : tagg Try.prog 30 = some true := by kernel_rfl
theorem tfld30_0 : tfld Try.prog 30 0 = some (0, 25) := by kernel_rfl
theorem tfld30_1 : tfld Try.prog 30 1 = some (1, 26) := by kernel_rfl
theorem tfld30_2 : tfld Try.prog 30 2 = some (2, 3) := by kernel_rfl
theorem tfld30_3 : tfld Try.prog 30 3 = some (3, 28) := by kernel_rfl
theorem tund31 : (Try.prog.underlying 31).isSome = true := by kernel_rfl
theorem tslice32 : tslice Try.prog 32 = some 104 := by kernel_rfl
theorem tsz37 : tsz Try.prog 37 = some 1 := by kernel_rfl
theorem tagg37 : tagg Try.prog 37 = some false := by kernel_rfl
theorem tslice37 : tslice Try.prog 37 = some 49 := by kernel_rfl
theorem tzero37 : tzero Try.prog 37 = some [.nils] := by kernel_rfl
theorem tsz41 : tsz Try.prog 41 = some 1 := by kernel_rfl
theorem tagg41 : tagg Try.prog 41 = some false := by kernel_rfl
theorem tslice41 : tslice Try.prog 41 = some 68 := by kernel_rfl
theorem tsz42 : tsz Try.prog 42 = some 1 := by kernel_rfl
theorem tagg42 : tagg Try.prog 42 = some false := by kernel_rfl
theorem tslice42 : tslice Try.prog 42 = some 69 := by kernel_rfl
theorem tsz43 : tsz Try.prog 43 = some 2 := by kernel_rfl
theorem tagg43 : tagg Try.prog 43 = some true := by kernel_rfl
theorem tarr43 : tarr Try.prog 43 = none := by kernel_rfl
theorem tzero43 : tzero Try.prog 43 = some [.int .i64 0, .int .i64 0] := by kernel_rfl
theorem tplaces43 : tplaces Try.prog 43 = some [(0, 1), (1, 1)] := by kernel_rfl
theorem tfld43_0 : tfld Try.prog 43 0 = some (0, 3) := by kernel_rfl
theorem tfld43_1 : tfld Try.prog 43 1 = some (1, 3) := by kernel_rfl
theorem tsz45 : tsz Try.prog 45 = some 5 := by kernel_rfl
theorem tagg45 : tagg Try.prog 45 = some true := by kernel_rfl
theorem tarr45 : tarr Try.prog 45 = none := by kernel_rfl
theorem tzero45 : tzero Try.prog 45 = some [.nils, .nils, .int .i64 0, .int .i64 0, .int .i64 0] := by kernel_rfl
theorem tplaces45 : tplaces Try.prog 45 = some [(0, 1), (1, 1), (2, 1), (3, 2)] := by kernel_rfl
theorem tfld45_0 : tfld Try.prog 45 0 = some (0, 41) := by kernel_rfl
theorem tfld45_1 : tfld Try.prog 45 1 = some (1, 42) := by kernel_rfl
theorem tfld45_2 : tfld Try.prog 45 2 = some (2, 3) := by kernel_rfl
theorem tfld45_3 : tfld Try.prog 45 3 = some (3, 43) := by kernel_rfl
theorem tsz49 : tsz Try.prog 49 = some 3 := by kernel_rfl
theorem tagg49 : tagg Try.prog 49 = some true := by kernel_rfl
theorem tarr49 : tarr Try.prog 49 = none := by kernel_rfl
theorem tbytes49 : tbytes Try.prog 49 = some 40 := by kernel_rfl
theorem tzero49 : tzero Try.prog 49 = some [.int .i64 0, .int .i64 0, .nils] := by kernel_rfl
theorem tplaces49 : tplaces Try.prog 49 = some [(0, 1), (1, 1), (2, 1)] := by kernel_rfl
theorem tfld49_0 : tfld Try.prog 49 0 = some (0, 3) := by kernel_rfl
theorem tfld49_1 : tfld Try.prog 49 1 = some (1, 3) := by kernel_rfl
theorem tfld49_2 : tfld Try.prog 49 2 = some (2, 22) := by kernel_rfl
theorem tsz50 : tsz Try.prog 50 = some 6 := by kernel_rfl
theorem tagg50 : tagg Try.prog 50 = some true := by kernel_rfl
theorem tarr50 : tarr Try.prog 50 = none := by kernel_rfl
theorem tzero50 : tzero Try.prog 50 = some [.nils, .int .i64 0, .int .i64 0, .int .i64 0, .int .i64 0, .int .i64 0] := by kernel_rfl
theorem tplaces50 : tplaces Try.prog 50 = some [(0, 1), (1, 1), (2, 1), (3, 1), (4, 1), (5, 1)] := by kernel_rfl
theorem tfld50_0 : tfld Try.prog 50 0 = some (0, 22) := by kernel_rfl
theorem tfld50_1 : tfld Try.prog 50 1 = some (1, 3) := by kernel_rfl
theorem tfld50_2 : tfld Try.prog 50 2 = some (2, 3) := by kernel_rfl
theorem tfld50_3 : tfld Try.prog 50 3 = some (3, 3) := by kernel_rfl
theorem tfld50_4 : tfld Try.prog 50 4 = some (4, 3) := by kernel_rfl
theorem tfld50_5 : tfld Try.prog 50 5 = some (5, 3) := by kernel_rfl
theorem tslice52 : tslice Try.prog 52 = some 22 := by kernel_rfl
theorem tslice55 : tslice Try.prog 55 = some 59 := by kernel_rfl
theorem tsz59 : tsz Try.prog 59 = some 3 := by kernel_rfl
theorem tagg59 : tagg Try.prog 59 = some true := by kernel_rfl
theorem tarr59 : tarr Try.prog 59 = none := by kernel_rfl
theorem tbytes59 : tbytes Try.prog 59 = some 24 := by kernel_rfl
theorem tzero59 : tzero Try.prog 59 = some [.int .i64 0, .int .i64 0, .int .u8 0] := by kernel_rfl
theorem tplaces59 : tplaces Try.prog 59 = some [(0, 1), (1, 1), (2, 1)] := by kernel_rfl
theorem tfld59_0 : tfld Try.prog 59 0 = some (0, 3) := by kernel_rfl
theorem tfld59_1 : tfld Try.prog 59 1 = some (1, 3) := by kernel_rfl
theorem tfld59_2 : tfld Try.prog 59 2 = some (2, 5) := by kernel_rfl
theorem tsz64 : tsz Try.prog 64 = some 6 := by kernel_rfl
theorem tagg64 : tagg Try.prog 64 = some true := by kernel_rfl
theorem tzero64 : tzero Try.prog 64 = some [.int .i64 0, .int .u8 0, .int .i64 0, .int .i64 0, .int .i64 0, .int .i64 0] := by kernel_rfl
theorem tfld64_0 : tfld Try.prog 64 0 = some (0, 3) := by kernel_rfl
theorem tfld64_1 : tfld Try.prog 64 1 = some (1, 5) := by kernel_rfl
theorem tfld64_2 : tfld Try.prog 64 2 = some (2, 28) := by kernel_rfl
theorem tfld64_3 : tfld Try.prog 64 3 = some (4, 3) := by kernel_rfl
theorem tfld64_4 : tfld Try.prog 64 4 = some (5, 3) := by kernel_rfl
theorem tsz66 : tsz Try.prog 66 = some 3 := by kernel_rfl
theorem tagg66 : tagg Try.prog 66 = some true := by kernel_rfl
theorem tzero66 : tzero Try.prog 66 = some [.int .i64 0, .int .u8 0, .int .i64 0] := by kernel_rfl
theorem tfld66_0 : tfld Try.prog 66 0 = some (0, 3) := by kernel_rfl
theorem tfld66_1 : tfld Try.prog 66 1 = some (1, 5) := by kernel_rfl
theorem tfld66_2 : tfld Try.prog 66 2 = some (2, 3) := by kernel_rfl
theorem tsz68 : tsz Try.prog 68 = some 6 := by kernel_rfl
theorem tagg68 : tagg Try.prog 68 = some true := by kernel_rfl
theorem tarr68 : tarr Try.prog 68 = none := by kernel_rfl
theorem tbytes68 : tbytes Try.prog 68 = some 48 := by kernel_rfl
theorem tzero68 : tzero Try.prog 68 = some [.int .i64 0, .int .u8 0, .int .i64 0, .int .i64 0, .int .i64 0, .int .i64 0] := by kernel_rfl
theorem tplaces68 : tplaces Try.prog 68 = some [(0, 1), (1, 1), (2, 2), (4, 1), (5, 1)] := by kernel_rfl
theorem tfld68_0 : tfld Try.prog 68 0 = some (0, 3) := by kernel_rfl
theorem tfld68_1 : tfld Try.prog 68 1 = some (1, 5) := by kernel_rfl
theorem tfld68_2 : tfld Try.prog 68 2 = some (2, 43) := by kernel_rfl
theorem tfld68_3 : tfld Try.prog 68 3 = some (4, 3) := by kernel_rfl
theorem tfld68_4 : tfld Try.prog 68 4 = some (5, 3) := by kernel_rfl
theorem tsz69 : tsz Try.prog 69 = some 3 := by kernel_rfl
theorem tagg69 : tagg Try.prog 69 = some true := by kernel_rfl
theorem tarr69 : tarr Try.prog 69 = none := by kernel_rfl
theorem tbytes69 : tbytes Try.prog 69 = some 24 := by kernel_rfl
theorem tzero69 : tzero Try.prog 69 = some [.int .i64 0, .int .u8 0, .int .i64 0] := by kernel_rfl
theorem tplaces69 : tplaces Try.prog 69 = some [(0, 1), (1, 1), (2, 1)] := by kernel_rfl
theorem tfld69_0 : tfld Try.prog 69 0 = some (0, 3) := by kernel_rfl
theorem tfld69_1 : tfld Try.prog 69 1 = some (1, 5) := by kernel_rfl
theorem tfld69_2 : tfld Try.prog 69 2 = some (2, 3) := by kernel_rfl
theorem tsz71 : tsz Try.prog 71 = some 1 := by kernel_rfl
theorem tagg71 : tagg Try.prog 71 = some false := by kernel_rfl
theorem tzero71 : tzero Try.prog 71 = some [.nilp] := by kernel_rfl
theorem tsz73 : tsz Try.prog 73 = some 1 := by kernel_rfl
theorem tagg73 : tagg Try.prog 73 = some false := by kernel_rfl
theorem tsz74 : tsz Try.prog 74 = some 3 := by kernel_rfl
theorem tslice74 : tslice Try.prog 74 = none := by kernel_rfl
theorem tarr74 : tarr Try.prog 74 = some (3, 3) := by kernel_rfl
theorem tsz76 : tsz Try.prog 76 = some 4 := by kernel_rfl
theorem tagg76 : tagg Try.prog 76 = some true := by kernel_rfl
theorem tarr76 : tarr Try.prog 76 = none := by kernel_rfl
theorem tzero76 : tzero Try.prog 76 = some [.int .u8 0, .int .i64 0, .int .i64 0, .int .i64 0] := by kernel_rfl
theorem tplaces76 : tplaces Try.prog 76 = some [(0, 1), (1, 3)] := by kernel_rfl
theorem tfld76_0 : tfld Try.prog 76 0 = some (0, 73) := by kernel_rfl
theorem tfld76_1 : tfld Try.prog 76 1 = some (1, 74) := by kernel_rfl
theorem tsz78 : tsz Try.prog 78 = some 1 := by kernel_rfl
theorem tagg78 : tagg Try.prog 78 = some false := by kernel_rfl
theorem tzero78 : tzero Try.prog 78 = some [.nilf] := by kernel_rfl
theorem tsz86 : tsz Try.prog 86 = some 1 := by kernel_rfl
theorem tagg86 : tagg Try.prog 86 = some false := by kernel_rfl
theorem tsz89 : tsz Try.prog 89 = some 1 := by kernel_rfl
theorem tagg89 : tagg Try.prog 89 = some false := by kernel_rfl
theorem tsz91 : tsz Try.prog 91 = some 1 := by kernel_rfl
theorem tagg91 : tagg Try.prog 91 = some false := by kernel_rfl
theorem tsz93 : tsz Try.prog 93 = some 1 := by kernel_rfl
theorem tagg93 : tagg Try.prog 93 = some false := by kernel_rfl
theorem tsz95 : tsz Try.prog 95 = some 1 := by kernel_rfl
theorem tagg95 : tagg Try.prog 95 = some false := by kernel_rfl
theorem tmap95 : tmap Try.prog 95 = some (76, 3) := by kernel_rfl
theorem tarr97 : tarr Try.prog 97 = none := by kernel_rfl
theorem tzero97 : tzero Try.prog 97 = some [.nils, .nils, .int .i64 0, .int .i64 0, .int .i64 0, .nils, .nilm] := by kernel_rfl
theorem tplaces97 : tplaces Try.prog 97 = some [(0, 5), (5, 1), (6, 1)] := by kernel_rfl
theorem tfld97_0 : tfld Try.prog 97 0 = some (0, 45) := by kernel_rfl
theorem tfld97_1 : tfld Try.prog 97 1 = some (5, 22) := by kernel_rfl
theorem tfld97_2 : tfld Try.prog 97 2 = some (6, 95) := by kernel_rfl
theorem tsz104 : tsz Try.prog 104 = some 1 := by kernel_rfl
theorem tagg104 : tagg Try.prog 104 = some false := by kernel_rfl
theorem tund104 : (Try.prog.underlying 104).isSome = true := by kernel_rfl
theorem tsz112 : tsz Try.prog 112 = some 1 := by kernel_rfl
theorem tagg112 : tagg Try.prog 112 = some false := by kernel_rfl
theorem tsz114 : tsz Try.prog 114 = some 1 := by kernel_rfl
theorem tagg114 : tagg Try.prog 114 = some true := by kernel_rfl
theorem tarr114 : tarr Try.prog 114 = none := by kernel_rfl
theorem tzero114 : tzero Try.prog 114 = some [.nilf] := by kernel_rfl
theorem tplaces114 : tplaces Try.prog 114 = some [(0, 1)] := by kernel_rfl
theorem tfld114_0 : tfld Try.prog 114 0 = some (0, 112) := by kernel_rfl
theorem tslice115 : tslice Try.prog 115 = some 114 := by kernel_rfl
theorem tsz116 : tsz Try.prog 116 = some 1 := by kernel_rfl
theorem tagg116 : tagg Try.prog 116 = some false := by kernel_rfl
theorem tsz117 : tsz Try.prog 117 = some 1 := by kernel_rfl
theorem tagg117 : tagg Try.prog 117 = some false := by kernel_rfl
theorem tmap117 : tmap Try.prog 117 = some (3, 121) := by kernel_rfl
theorem tarr119 : tarr Try.prog 119 = none := by kernel_rfl
theorem tzero119 : tzero Try.prog 119 = some [.nils, .int .i64 0, .int .i64 0, .int .i64 0, .int .i64 0, .int .i64 0, .nilm] := by kernel_rfl
theorem tplaces119 : tplaces Try.prog 119 = some [(0, 6), (6, 1)] := by kernel_rfl
theorem tfld119_0 : tfld Try.prog 119 0 = some (0, 50) := by kernel_rfl
theorem tfld119_1 : tfld Try.prog 119 1 = some (6, 117) := by kernel_rfl
theorem tsz121 : tsz Try.prog 121 = some 2 := by kernel_rfl
theorem tagg121 : tagg Try.prog 121 = some true := by kernel_rfl
theorem tslice121 : tslice Try.prog 121 = none := by kernel_rfl
theorem tarr121 : tarr Try.prog 121 = some (2, 3) := by kernel_rfl
theorem tzero121 : tzero Try.prog 121 = some [.int .i64 0, .int .i64 0] := by kernel_rfl
theorem tzv121 : tzv Try.prog 121 = some (.agg [.int .i64 0, .int .i64 0]) := by kernel_rfl
theorem tsz122 : tsz Try.prog 122 = some 1 := by kernel_rfl
theorem tagg122 : tagg Try.prog 122 = some false := by kernel_rfl
theorem tzero122 : tzero Try.prog 122 = some [.nilf] := by kernel_rfl
theorem tsz134 : tsz Try.prog 134 = some 1 := by kernel_rfl
theorem tagg134 : tagg Try.prog 134 = some false := by kernel_rfl
theorem tsz136 : tsz Try.prog 136 = some 2 := by kernel_rfl
theorem tagg136 : tagg Try.prog 136 = some true := by kernel_rfl
theorem tarr136 : tarr Try.prog 136 = none := by kernel_rfl
theorem tzero136 : tzero Try.prog 136 = some [.int .u8 0, .nilf] := by kernel_rfl
theorem tplaces136 : tplaces Try.prog 136 = some [(0, 1), (1, 1)] := by kernel_rfl
theorem tfld136_0 : tfld Try.prog 136 0 = some (0, 5) := by kernel_rfl
theorem tfld136_1 : tfld Try.prog 136 1 = some (1, 134) := by kernel_rfl
theorem tslice137 : tslice Try.prog 137 = some 136 := by kernel_rfl
attribute [go_sem] tsz3 tagg3 tint3 tbytes3 tzero3 tzv3 tsz4 tagg4 tzero4 tsz5 tagg5 tund5 tsz22 tagg22 tslice22 tbytes22 tzero22 tsz24 tagg24 tfld24_0 tfld24_1 tfld24_2 tfld24_3 tfld24_4 tfld24_5 tsz25 tagg25 tslice25 tsz26 tagg26 tslice26 tsz28 tagg28 tfld28_0 tfld28_1 tsz30 tagg30 tfld30_0 tfld30_1 tfld30_2 tfld30_3 tund31 tslice32 tsz37 tagg37 tslice37 tzero37 tsz41 tagg41 tslice41 tsz42 tagg42 tslice42 tsz43 tagg43 tarr43 tzero43 tplaces43 tfld43_0 tfld43_1 tsz45 tagg45 tarr45 tzero45 tplaces45 tfld45_0 tfld45_1 tfld45_2 tfld45_3 tsz49 tagg49 tarr49 tbytes49 tzero49 tplaces49 tfld49_0 tfld49_1 tfld49_2 tsz50 tagg50 tarr50 tzero50 tplaces50 tfld50_0 tfld50_1 tfld50_2 tfld50_3 tfld50_4 tfld50_5 tslice52 tslice55 tsz59 tagg59 tarr59 tbytes59 tzero59 tplaces59 tfld59_0 tfld59_1 tfld59_2 tsz64 tagg64 tzero64 tfld64_0 tfld64_1 tfld64_2 tfld64_3 tfld64_4 tsz66 tagg66 tzero66 tfld66_0 tfld66_1 tfld66_2 tsz68 tagg68 tarr68 tbytes68 tzero68 tplaces68 tfld68_0 tfld68_1 tfld68_2 tfld68_3 tfld68_4 tsz69 tagg69 tarr69 tbytes69 tzero69 tplaces69 tfld69_0 tfld69_1 tfld69_2 tsz71 tagg71 tzero71 tsz73 tagg73 tsz74 tslice74 tarr74 tsz76 tagg76 tarr76 tzero76 tplaces76 tfld76_0 tfld76_1 tsz78 tagg78 tzero78 tsz86 tagg86 tsz89 tagg89 tsz91 tagg91 tsz93 tagg93 tsz95 tagg95 tmap95 tarr97 tzero97 tplaces97 tfld97_0 tfld97_1 tfld97_2 tsz104 tagg104 tund104 tsz112 tagg112 tsz114 tagg114 tarr114 tzero114 tplaces114 tfld114_0 tslice115 tsz116 tagg116 tsz117 tagg117 tmap117 tarr119 tzero119 tplaces119 tfld119_0 tfld119_1 tsz121 tagg121 tslice121 tarr121 tzero121 tzv121 tsz122 tagg122 tzero122 tsz134 tagg134 tsz136 tagg136 tarr136 tzero136 tplaces136 tfld136_0 tfld136_1 tslice137
end Go.Am

/- Plain words for the alarms: seasons, rules, spells, prices. No program is in sight. -/
namespace Go.Am
namespace Al
structure Rule where
  start : Int
  back : Int
  hold : Int
structure Season where
  speeds : List Int
  fell : Bool
instance : Inhabited Season := ⟨⟨[], false⟩⟩
def speedB (n : Int) : Bool := decide (0 ≤ n ∧ n ≤ 1000)
end Al
end Go.Am

/- Contracts of the alarm functions, part A: small ones. -/
namespace Go.Am
namespace Al
open Go.RowKit Go.Proofs
attribute [local irreducible] AWP CallS Kt goK CallK stepK evOps
set_option maxRecDepth 4000
set_option linter.unusedSimpArgs false
set_option linter.unusedVariables false
theorem within_c (n lo hi : Int) : CallS Try.prog 43 [.int .i64 n, .int .i64 lo, .int .i64 hi] (.bool (decide (lo ≤ n ∧ n ≤ hi))) := by
  (refine callS_of_awp (fun w args => Try.call43 ..) Try.func43 rfl (fun w0 m0 wz => ?_); simp only [Try.ntmps43, Try.results43, initT, junks, sl, List.toList_toArray, List.cons_append, List.nil_append, List.length_cons, List.length_nil, Nat.reduceAdd, Nat.reduceSub])
  (repeat' (first
 | refine awp_seqK ?_
 | refine kt ?_
 | refine And.intro ?_ ?_
 | ((first | refine awp_stp rfl ?_ | refine awp_draw (by kernel_rfl) (by kernel_rfl) ?_ | refine Imp.le2 ?_ | refine go_split (fun _h => ?_) (fun _h => ?_)) <;> try simp (maxSteps := 4000000) only [go_sem, seval, List.append_eq, List.cons_append, List.nil_append])
 | intro _h
 | refine awp_block ?_
 | refine awp_scope ?_
 | (show heapOK _ _ = true; kernel_rfl)
 | (show heapOK2 _ _ = true; kernel_rfl)
 | (omega)))
theorem speed_c (n : Int) : CallS Try.prog 61 [.int .i64 n] (.bool (decide (0 ≤ n ∧ n ≤ 1000))) := by
  (refine callS_of_awp (fun w args => Try.call61 ..) Try.func61 rfl (fun w0 m0 wz => ?_); simp only [Try.ntmps61, Try.results61, initT, junks, sl, List.toList_toArray, List.cons_append, List.nil_append, List.length_cons, List.length_nil, Nat.reduceAdd, Nat.reduceSub])
  (repeat' (first
 | refine awp_seqK ?_
 | refine kt ?_
 | refine And.intro ?_ ?_
 | ((first | refine awp_stp rfl ?_ | refine awp_draw (by kernel_rfl) (by kernel_rfl) ?_ | refine Imp.le2 ?_ | refine callK_of (within_c _ _ _) ?_ | refine go_split (fun _h => ?_) (fun _h => ?_)) <;> try simp (maxSteps := 4000000) only [go_sem, seval, List.append_eq, List.cons_append, List.nil_append])
 | intro _h
 | refine awp_block ?_
 | refine awp_scope ?_
 | (show heapOK _ _ = true; kernel_rfl)
 | (show heapOK2 _ _ = true; kernel_rfl)
 | (omega)))
theorem max2_c (f : Bool) (a b : Int) : CallS Try.prog 73 [.psl f 2 [.int .i64 a, .int .i64 b]] (.int .i64 (max a b)) := by
  (refine callS_of_awp (fun w args => Try.call73 ..) Try.func73 rfl (fun w0 m0 wz => ?_); simp only [Try.ntmps73, Try.results73, initT, junks, sl, List.toList_toArray, List.cons_append, List.nil_append, List.length_cons, List.length_nil, Nat.reduceAdd, Nat.reduceSub])
  (repeat' (first
 | refine awp_seqK ?_
 | refine kt ?_
 | refine And.intro ?_ ?_
 | ((first | refine awp_stp rfl ?_ | refine awp_draw (by kernel_rfl) (by kernel_rfl) ?_ | refine Imp.le2 ?_ | refine go_split (fun _h => ?_) (fun _h => ?_)) <;> try simp (maxSteps := 4000000) only [go_sem, seval, List.append_eq, List.cons_append, List.nil_append])
 | intro _h
 | refine awp_block ?_
 | refine awp_scope ?_
 | (show heapOK _ _ = true; kernel_rfl)
 | (show heapOK2 _ _ = true; kernel_rfl)
 | (omega)))
  (refine awp_rounds 2 ?_; rw [ar_s])
  (repeat' (first
 | refine awp_seqK ?_
 | refine kt ?_
 | refine And.intro ?_ ?_
 | ((first | refine awp_stp rfl ?_ | refine awp_draw (by kernel_rfl) (by kernel_rfl) ?_ | refine Imp.le2 ?_ | refine go_split (fun _h => ?_) (fun _h => ?_)) <;> try simp (maxSteps := 4000000) only [go_sem, seval, List.append_eq, List.cons_append, List.nil_append])
 | intro _h
 | refine awp_block ?_
 | refine awp_scope ?_
 | (show heapOK _ _ = true; kernel_rfl)
 | (show heapOK2 _ _ = true; kernel_rfl)
 | (omega)))
theorem min2_c (f : Bool) (a b : Int) : CallS Try.prog 51 [.psl f 2 [.int .i64 a, .int .i64 b]] (.int .i64 (min a b)) := by
  (refine callS_of_awp (fun w args => Try.call51 ..) Try.func51 rfl (fun w0 m0 wz => ?_); simp only [Try.ntmps51, Try.results51, initT, junks, sl, List.toList_toArray, List.cons_append, List.nil_append, List.length_cons, List.length_nil, Nat.reduceAdd, Nat.reduceSub])
  (repeat' (first
 | refine awp_seqK ?_
 | refine kt ?_
 | refine And.intro ?_ ?_
 | ((first | refine awp_stp rfl ?_ | refine awp_draw (by kernel_rfl) (by kernel_rfl) ?_ | refine Imp.le2 ?_ | refine go_split (fun _h => ?_) (fun _h => ?_)) <;> try simp (maxSteps := 4000000) only [go_sem, seval, List.append_eq, List.cons_append, List.nil_append])
 | intro _h
 | refine awp_block ?_
 | refine awp_scope ?_
 | (show heapOK _ _ = true; kernel_rfl)
 | (show heapOK2 _ _ = true; kernel_rfl)
 | (omega)))
  (refine awp_rounds 2 ?_; rw [ar_s])
  (repeat' (first
 | refine awp_seqK ?_
 | refine kt ?_
 | refine And.intro ?_ ?_
 | ((first | refine awp_stp rfl ?_ | refine awp_draw (by kernel_rfl) (by kernel_rfl) ?_ | refine Imp.le2 ?_ | refine go_split (fun _h => ?_) (fun _h => ?_)) <;> try simp (maxSteps := 4000000) only [go_sem, seval, List.append_eq, List.cons_append, List.nil_append])
 | intro _h
 | refine awp_block ?_
 | refine awp_scope ?_
 | (show heapOK _ _ = true; kernel_rfl)
 | (show heapOK2 _ _ = true; kernel_rfl)
 | (omega)))
theorem greatest_c (f : Bool) (a b : Int) : CallS Try.prog 66 [.psl f 2 [.int .i64 a, .int .i64 b]] (.int .i64 (max a b)) := by
  (refine callS_of_awp (fun w args => Try.call66 ..) Try.func66 rfl (fun w0 m0 wz => ?_); simp only [Try.ntmps66, Try.results66, initT, junks, sl, List.toList_toArray, List.cons_append, List.nil_append, List.length_cons, List.length_nil, Nat.reduceAdd, Nat.reduceSub])
  (repeat' (first
 | refine awp_seqK ?_
 | refine kt ?_
 | refine And.intro ?_ ?_
 | ((first | refine awp_stp rfl ?_ | refine awp_draw (by kernel_rfl) (by kernel_rfl) ?_ | refine Imp.le2 ?_ | refine callK_of (max2_c _ _ _) ?_ | refine go_split (fun _h => ?_) (fun _h => ?_)) <;> try simp (maxSteps := 4000000) only [go_sem, seval, List.append_eq, List.cons_append, List.nil_append])
 | intro _h
 | refine awp_block ?_
 | refine awp_scope ?_
 | (show heapOK _ _ = true; kernel_rfl)
 | (show heapOK2 _ _ = true; kernel_rfl)
 | (omega)))
theorem least_c (f : Bool) (a b : Int) : CallS Try.prog 67 [.psl f 2 [.int .i64 a, .int .i64 b]] (.int .i64 (min a b)) := by
  (refine callS_of_awp (fun w args => Try.call67 ..) Try.func67 rfl (fun w0 m0 wz => ?_); simp only [Try.ntmps67, Try.results67, initT, junks, sl, List.toList_toArray, List.cons_append, List.nil_append, List.length_cons, List.length_nil, Nat.reduceAdd, Nat.reduceSub])
  (repeat' (first
 | refine awp_seqK ?_
 | refine kt ?_
 | refine And.intro ?_ ?_
 | ((first | refine awp_stp rfl ?_ | refine awp_draw (by kernel_rfl) (by kernel_rfl) ?_ | refine Imp.le2 ?_ | refine callK_of (min2_c _ _ _) ?_ | refine go_split (fun _h => ?_) (fun _h => ?_)) <;> try simp (maxSteps := 4000000) only [go_sem, seval, List.append_eq, List.cons_append, List.nil_append])
 | intro _h
 | refine awp_block ?_
 | refine awp_scope ?_
 | (show heapOK _ _ = true; kernel_rfl)
 | (show heapOK2 _ _ = true; kernel_rfl)
 | (omega)))
theorem nothing_c : CallS Try.prog 68 [] (.agg [.int .i64 1, .int .i64 0]) := by
  (refine callS_of_awp (fun w args => Try.call68 ..) Try.func68 rfl (fun w0 m0 wz => ?_); simp only [Try.ntmps68, Try.results68, initT, junks, sl, List.toList_toArray, List.cons_append, List.nil_append, List.length_cons, List.length_nil, Nat.reduceAdd, Nat.reduceSub])
  (repeat' (first
 | refine awp_seqK ?_
 | refine kt ?_
 | refine And.intro ?_ ?_
 | ((first | refine awp_stp rfl ?_ | refine awp_draw (by kernel_rfl) (by kernel_rfl) ?_ | refine Imp.le2 ?_ | refine go_split (fun _h => ?_) (fun _h => ?_)) <;> try simp (maxSteps := 4000000) only [go_sem, seval, List.append_eq, List.cons_append, List.nil_append])
 | intro _h
 | refine awp_block ?_
 | refine awp_scope ?_
 | (show heapOK _ _ = true; kernel_rfl)
 | (show heapOK2 _ _ = true; kernel_rfl)
 | (omega)))
end Al
end Go.Am

/- Contracts of the alarm functions, part A: small ones. -/
namespace Go.Am
namespace Al
open Go.RowKit Go.Proofs
attribute [local irreducible] AWP CallS Kt goK CallK stepK evOps
set_option maxRecDepth 4000
set_option linter.unusedSimpArgs false
set_option linter.unusedVariables false
set_option maxHeartbeats 400000
/-- A post of the program. -/
structure Post where
  errs : List Int
  gain : Int
  drop : Int
  fall : Int
  out : Int
  ahead : Int
def postC (p : Post) : List AV := [sl p.errs, .int .i64 p.gain, .int .i64 p.drop, .int .i64 p.fall, .int .i64 p.out, .int .i64 p.ahead]
def agLo (errs row : List Int) (failed : Int) : Nat → Int
  | 0 => 0
  | i + 1 => if (i : Int) = failed then agLo errs row failed i else max (agLo errs row failed i) (row.getD i 0 - errs.getD i 0)
def agHi (errs row : List Int) (failed : Int) : Nat → Int
  | 0 => 1000
  | i + 1 => if (i : Int) = failed then agHi errs row failed i else min (agHi errs row failed i) (row.getD i 0 + errs.getD i 0)
def agreedEnds (errs row : List Int) (failed : Int) : Int × Int :=
  if agHi errs row failed row.length < agLo errs row failed row.length then (1, 0) else (agLo errs row failed row.length, agHi errs row failed row.length)
theorem agreed_c (p : Post) (row : List Int) (failed : Int) (hl : row.length = p.errs.length) (hb : row.length ≤ 1000) (h1 : ∀ i, i < row.length → -1000 ≤ row.getD i 0 ∧ row.getD i 0 ≤ 2000) (h2 : ∀ i, i < p.errs.length → 0 ≤ p.errs.getD i 0 ∧ p.errs.getD i 0 ≤ 1000) :
    CallS Try.prog 64 [.agg (postC p), sl row, .int .i64 failed] (.agg [.int .i64 (agreedEnds p.errs row failed).1, .int .i64 (agreedEnds p.errs row failed).2]) := by
  (refine callS_of_awp (fun w args => Try.call64 ..) Try.func64 rfl (fun w0 m0 wz => ?_); simp only [Try.ntmps64, Try.results64, initT, junks, sl, List.toList_toArray, List.cons_append, List.nil_append, List.length_cons, List.length_nil, Nat.reduceAdd, Nat.reduceSub])
  simp only [postC]
  (repeat' (first
 | refine awp_seqK ?_
 | refine kt ?_
 | refine And.intro ?_ ?_
 | ((first | refine awp_stp rfl ?_ | refine awp_draw (by kernel_rfl) (by kernel_rfl) ?_ | refine Imp.le2 ?_ | refine go_split (fun _h => ?_) (fun _h => ?_)) <;> try simp (maxSteps := 4000000) only [go_sem, seval, List.append_eq, List.cons_append, List.nil_append])
 | intro _h
 | refine awp_block ?_
 | refine awp_scope ?_
 | (show heapOK _ _ = true; kernel_rfl)
 | (show heapOK2 _ _ = true; kernel_rfl)
 | (omega)))
  refine awp_loopN row.length (fun i => ⟨mkT 49 [(1, sl row), (2, .int .i64 failed), (3, .ptr 0 0 0), (6, .ptr 1 0 0), (7, .int .i64 (agLo p.errs row failed i)), (8, .int .i64 (agHi p.errs row failed i)), (11, sl row), (12, .int .i64 row.length), (13, .int .i64 i)], [some (.cells 50 1 0 (postC p)), some (.cells 121 1 0 [.int .i64 0, .int .i64 0])], []⟩) (.le2 ?_) ?_
  · simp only [postC]; simp (maxSteps := 4000000) only [go_sem, seval, List.append_eq, List.cons_append, List.nil_append]
    all_goals first | rfl | exact ⟨rfl, rfl⟩ | all_goals first | rfl | exact ⟨rfl, rfl⟩ | exact ⟨rfl, rfl, rfl⟩
  · intro i hi
    have hr := h1 i
    have he := h2 i
    simp only [postC]; simp (maxSteps := 4000000) only [go_sem, seval, List.append_eq, List.cons_append, List.nil_append]
    (repeat' (first
 | refine awp_seqK ?_
 | refine kt ?_
 | refine And.intro ?_ ?_
 | ((first | refine awp_stp rfl ?_ | refine awp_draw (by kernel_rfl) (by kernel_rfl) ?_ | refine Imp.le2 ?_ | refine callK_of (greatest_c _ _ _) ?_ | refine callK_of (least_c _ _ _) ?_ | refine callK_of (nothing_c) ?_ | refine go_split (fun _h => ?_) (fun _h => ?_)) <;> try simp (maxSteps := 4000000) only [go_sem, seval, List.append_eq, List.cons_append, List.nil_append])
 | intro _h
 | refine awp_block ?_
 | refine awp_scope ?_
 | (show heapOK _ _ = true; kernel_rfl)
 | (show heapOK2 _ _ = true; kernel_rfl)
 | (omega)))
    all_goals first
      | (simp only [agLo, agHi]; simp only [*, if_true, if_false]; done)
      | (have e : i = row.length := by omega
         subst e; clear hl h1 h2
         simp only [agreedEnds, *, if_true, if_false])
end Al
end Go.Am

/- Plain words for the posts at work: what may be, by the gauge that failed. No program is in sight, but for maps of numbers to pairs. -/
namespace Go.Am
namespace Al
/-- The entries of a map, in order of their keys: k keys from f on. -/
def canonF (g : Int → Option (Int × Int)) : Nat → Int → List (Int × Int × Int)
  | 0, _ => []
  | k + 1, f => match g f with
    | some x => (f, x) :: canonF g k (f + 1)
    | none => canonF g k (f + 1)
def updI (g : Int → Option (Int × Int)) (j : Int) (v : Option (Int × Int)) : Int → Option (Int × Int) := fun i => if i = j then v else g i
theorem canonF_congr {g g' : Int → Option (Int × Int)} : ∀ (k : Nat) (f : Int), (∀ j, f ≤ j → j < f + k → g j = g' j) → canonF g k f = canonF g' k f
  | 0, _, _ => rfl
  | k + 1, f, h => by
    simp only [canonF]
    rw [h f (by omega) (by omega), canonF_congr k (f + 1) (fun j h1 h2 => h j (by omega) (by omega))]
theorem canonF_get {g : Int → Option (Int × Int)} {j : Int} : ∀ (k : Nat) (f : Int), f ≤ j → j < f + k → mpGet (canonF g k f) j = g j
  | 0, f, h1, h2 => by omega
  | k + 1, f, h1, h2 => by
    have step : ∀ f', f' = f + 1 → f ≠ j → mpGet (canonF g k f') j = g j := fun f' e hne => by subst e; exact canonF_get k (f + 1) (by omega) (by omega)
    have miss : ∀ (k : Nat) (f : Int), j < f → mpGet (canonF g k f) j = none := by
      intro k
      induction k with
      | zero => intro f h; rfl
      | succ k ih =>
        intro f h
        simp only [canonF]
        cases g f with
        | none => exact ih _ (by omega)
        | some x => simp only [mpGet]; rw [if_neg (by omega)]; exact ih _ (by omega)
    simp only [canonF]
    by_cases e : f = j
    · subst e
      cases hg : g f with
      | none => simp only; exact miss k _ (by omega)
      | some x => simp only [mpGet, if_true]
    · cases hg : g f with
      | none => exact step _ rfl e
      | some x => simp only [mpGet]; rw [if_neg e]; exact step _ rfl e
theorem canonF_put {g : Int → Option (Int × Int)} {j : Int} {v : Int × Int} : ∀ (k : Nat) (f : Int), f ≤ j → j < f + k → ((g j).isSome = true ∨ ∀ i, j < i → i < f + k → g i = none) → mpPut (canonF g k f) j v = canonF (updI g j (some v)) k f
  | 0, f, h1, h2, _ => by omega
  | k + 1, f, h1, h2, h3 => by
    simp only [canonF]
    by_cases e : f = j
    · subst e
      have e1 : updI g f (some v) f = some v := by simp [updI]
      have e2 : canonF (updI g f (some v)) k (f + 1) = canonF g k (f + 1) := canonF_congr k _ (fun i h4 _ => by simp [updI, show i ≠ f by omega])
      rw [e1, e2]
      cases hg : g f with
      | some x => simp only [mpPut, if_true]
      | none =>
        have h4 : ∀ i, f < i → i < f + (k + 1 : Nat) → g i = none := h3.resolve_left (by simp [hg])
        have e3 : canonF g k (f + 1) = [] := by
          have : ∀ (k : Nat) (f : Int), (∀ i, f ≤ i → i < f + k → g i = none) → canonF g k f = [] := by
            intro k
            induction k with
            | zero => intro f h; rfl
            | succ k ih => intro f h; simp only [canonF]; rw [h f (by omega) (by omega)]; exact ih _ (fun i h5 h6 => h i (by omega) (by omega))
          exact this k _ (fun i h5 h6 => h4 i (by omega) (by omega))
        simp only [e3, mpPut]
    · have e1 : updI g j (some v) f = g f := by simp [updI, e]
      have ih := canonF_put (g := g) (v := v) k (f + 1) (j := j) (by omega) (by omega) (h3.imp id (fun h i h4 h5 => h i h4 (by omega)))
      rw [e1]
      cases hg : g f with
      | none => exact ih
      | some x => simp only [mpPut]; rw [if_neg e, ih]
theorem canonF_del {g : Int → Option (Int × Int)} {j : Int} : ∀ (k : Nat) (f : Int), mpDel (canonF g k f) j = canonF (updI g j none) k f
  | 0, f => rfl
  | k + 1, f => by
    simp only [canonF]
    by_cases e : f = j
    · subst e
      have e1 : updI g f none f = none := by simp [updI]
      have e2 : canonF (updI g f none) k (f + 1) = canonF g k (f + 1) := canonF_congr k _ (fun i h4 _ => by simp [updI, show i ≠ f by omega])
      rw [e1, e2]
      cases hg : g f with
      | some x => simp only [mpDel, if_true]
      | none =>
        simp only
        have := canonF_del (g := g) (j := f) k (f + 1)
        rw [this, e2]
    · have e1 : updI g j none f = g f := by simp [updI, e]
      have ih := canonF_del (g := g) (j := j) k (f + 1)
      rw [e1]
      cases hg : g f with
      | none => exact ih
      | some x => simp only [mpDel]; rw [if_neg e, ih]
/-- The map of n gauges. -/
def canon (n : Nat) (g : Int → Option (Int × Int)) : List (Int × Int × Int) := canonF g (n + 1) (-1)
theorem canon_congr {n : Nat} {g g' : Int → Option (Int × Int)} (h : ∀ j : Int, -1 ≤ j → j < n → g j = g' j) : canon n g = canon n g' := canonF_congr _ _ (fun j h1 h2 => h j h1 (by omega))
theorem canon_get {n : Nat} {g : Int → Option (Int × Int)} {j : Int} (h1 : -1 ≤ j) (h2 : j < n) : mpGet (canon n g) j = g j := canonF_get _ _ h1 (by omega)
theorem canon_put {n : Nat} {g : Int → Option (Int × Int)} {j : Int} {v : Int × Int} (h1 : -1 ≤ j) (h2 : j < n) (h3 : (g j).isSome = true ∨ ∀ i, j < i → i < n → g i = none) : mpPut (canon n g) j v = canon n (updI g j (some v)) :=
  canonF_put _ _ h1 (by omega) (h3.imp id (fun h i h4 h5 => h i h4 (by omega)))
theorem canon_del {n : Nat} {g : Int → Option (Int × Int)} {j : Int} : mpDel (canon n g) j = canon n (updI g j none) := canonF_del _ _
theorem canon_none {n : Nat} {g : Int → Option (Int × Int)} (h : ∀ j : Int, -1 ≤ j → j < n → g j = none) : canon n g = [] := by
  have : ∀ (k : Nat) (f : Int), (∀ i, f ≤ i → i < f + k → g i = none) → canonF g k f = [] := by
    intro k
    induction k with
    | zero => intro f h; rfl
    | succ k ih => intro f h; simp only [canonF]; rw [h f (by omega) (by omega)]; exact ih _ (fun i h5 h6 => h i (by omega) (by omega))
  exact this _ _ (fun i h1 h2 => h i h1 (by omega))
section
variable {σ : Nat → Nat} {p : Nat → Prop} {q : Nat → Bool} {m : List (Int × Int × Int)}
theorem rb_mp : renB σ (.map (mpC m)) = .map (mpC m) := by
  simp only [renB, mpC, List.map_map]
  congr 1
theorem rf_mp : refsB p (.map (mpC m)) = True := by
  rw [eq_iff_iff, iff_true]
  simp only [refsB, mpC, List.mem_map]
  rintro _ ⟨e, _, rfl⟩
  simp [refs, refsL]
end
attribute [go_sem] rb_mp rf_mp
end Al
end Go.Am

/- Structs and bools that are compared, in the walk. -/
namespace Go.Am
namespace Al
open Go.RowKit Go.Proofs
section
variable {P : Program} {t : TypeId} {K : AV → Prop} {k1 k2 k3 : IntKind} {a b c d e f : Int}
theorem bin_agg2 (h : tkb P t = some [false, false]) : binK P .eql t (.agg [.int k1 a, .int k2 b]) (.agg [.int k1 c, .int k2 d]) K = K (.bool (decide (a = c ∧ b = d))) := by
  have hs : scalEq [.int k1 a, .int k2 b] [.int k1 c, .int k2 d] = some (decide (a = c ∧ b = d)) := by simp [scalEq, Bool.decide_and]
  simp only [binK, hs, eq_true (eqOK (P := P) t), List.map_cons, List.map_nil, kindB, h, true_and]
end
theorem tkb121 : tkb Try.prog 121 = some [false, false] := by kernel_rfl
theorem eq122 {K : AV → Prop} {a b c d : Int} : binK Try.prog .eql 121 (.agg [.int .i64 a, .int .i64 b]) (.agg [.int .i64 c, .int .i64 d]) K = K (.bool (decide (a = c ∧ b = d))) := bin_agg2 tkb121
attribute [go_sem] eq122
end Al
end Go.Am

/- Contracts of the alarm functions: a post at work. -/
namespace Go.Am
namespace Al
open Go.RowKit Go.Proofs
attribute [local irreducible] AWP CallS Kt goK CallK stepK evOps SemF SemY
set_option maxRecDepth 4000
set_option linter.unusedSimpArgs false
set_option linter.unusedVariables false
set_option maxHeartbeats 1600000
def watchC (p : Post) (mb : Nat) : List AV := postC p ++ [.map mb]
theorem begin_c (p : Post) (hb : p.errs.length ≤ 1000) : SemF Try.prog 44 [.agg (postC p)] [] (.ptr 2 0 0) [none, some (.map (mpC (canon p.errs.length fun _ => some (0, 1000)))), some (.cells 119 1 0 (watchC p 1))] := by
  (refine semF_of_awp (ys := [.ptr 2 0 0]) (fun w args => Try.call44 ..) Try.func44 rfl (fun w0 m0 wz => ?_); simp only [Try.ntmps44, Try.results44, initT, junks, postC, watchC, sl, List.toList_toArray, List.cons_append, List.nil_append, List.length_cons, List.length_nil, Nat.reduceAdd, Nat.reduceSub])
  (repeat' (first
 | refine awp_seqK ?_
 | refine kt ?_
 | refine And.intro ?_ ?_
 | ((first | refine awp_stp rfl ?_ | refine awp_draw (by kernel_rfl) (by kernel_rfl) ?_ | refine Imp.le2 ?_ | refine go_split (fun _h => ?_) (fun _h => ?_)) <;> try simp (maxSteps := 4000000) only [go_sem, seval, List.append_eq, List.cons_append, List.nil_append, postC, watchC])
 | intro _h
 | refine awp_block ?_
 | refine awp_scope ?_
 | (show heapOK _ _ = true; kernel_rfl)
 | (show heapOK2 _ _ = true; kernel_rfl)
 | (omega)))
  refine awp_loopN (p.errs.length + 1) (fun i => ⟨mkT 23 [(1, .ptr 0 0 0), (3, .ptr 2 0 0), (4, .int .i64 ((i : Int) - 1))], [some (.cells 50 1 0 (postC p)), some (.map (mpC (canon p.errs.length fun f => if f < (i : Int) - 1 then some (0, 1000) else none))), some (.cells 119 1 0 (watchC p 1))], []⟩) (.le2 ?_) ?_
  · simp only [postC, watchC]; simp (maxSteps := 4000000) only [go_sem, seval, List.append_eq, List.cons_append, List.nil_append, postC, watchC]
    rw [canon_none]
    · all_goals first | rfl | exact ⟨rfl, rfl⟩ | all_goals first | rfl | exact ⟨rfl, rfl⟩ | exact ⟨rfl, rfl, rfl⟩
    · intro j h1 h2; rw [if_neg (by omega)]
  · intro i hi
    simp only [postC, watchC]; simp (maxSteps := 4000000) only [go_sem, seval, List.append_eq, List.cons_append, List.nil_append, postC, watchC]
    (repeat' (first
 | refine awp_seqK ?_
 | refine kt ?_
 | refine And.intro ?_ ?_
 | ((first | refine awp_stp rfl ?_ | refine awp_draw (by kernel_rfl) (by kernel_rfl) ?_ | refine Imp.le2 ?_ | refine go_split (fun _h => ?_) (fun _h => ?_)) <;> try simp (maxSteps := 4000000) only [go_sem, seval, List.append_eq, List.cons_append, List.nil_append, postC, watchC])
 | intro _h
 | refine awp_block ?_
 | refine awp_scope ?_
 | (show heapOK _ _ = true; kernel_rfl)
 | (show heapOK2 _ _ = true; kernel_rfl)
 | (omega)))
    · rw [canon_put (by omega) (by omega) (.inr fun j h1 _ => if_neg (by omega))]
      congr 1
      refine canon_congr fun j h1 h2 => ?_
      simp only [updI]
      by_cases e : j = (i : Int) - 1
      · rw [if_pos e, if_pos (by omega)]
      · rw [if_neg e]
        by_cases h : j < (i : Int) - 1
        · rw [if_pos h, if_pos (by omega)]
        · rw [if_neg h, if_neg (by omega)]
    · congr 1
      exact canon_congr fun j h1 h2 => if_pos (by omega)
theorem failing_c (p : Post) (m : List (Int × Int × Int)) : SemF Try.prog 65 [.ptr 0 0 0] [some (.cells 119 1 0 (watchC p 1)), some (.map (mpC m))] (.fn (.func 81) [] [.ptr 2 0 0]) [some (.cells 119 1 0 (watchC p 1)), some (.map (mpC m)), some (.cells 86 1 0 [.ptr 0 0 0])] := by
  (refine semF_of_awp (ys := [.fn (.func 81) [] [.ptr 2 0 0]]) (fun w args => Try.call65 ..) Try.func65 rfl (fun w0 m0 wz => ?_); simp only [Try.ntmps65, Try.results65, initT, junks, postC, watchC, sl, List.toList_toArray, List.cons_append, List.nil_append, List.length_cons, List.length_nil, Nat.reduceAdd, Nat.reduceSub])
  (repeat' (first
 | refine awp_seqK ?_
 | refine kt ?_
 | refine And.intro ?_ ?_
 | ((first | refine awp_stp rfl ?_ | refine awp_draw (by kernel_rfl) (by kernel_rfl) ?_ | refine Imp.le2 ?_ | refine go_split (fun _h => ?_) (fun _h => ?_)) <;> try simp (maxSteps := 4000000) only [go_sem, seval, List.append_eq, List.cons_append, List.nil_append, postC, watchC])
 | intro _h
 | refine awp_block ?_
 | refine awp_scope ?_
 | (show heapOK _ _ = true; kernel_rfl)
 | (show heapOK2 _ _ = true; kernel_rfl)
 | (omega)))
def stepX (p : Post) (row : List Int) (first : Bool) (f : Int) (x : Int × Int) : Option (Int × Int) :=
  if agreedEnds p.errs row f = (1, 0) ∨ min (if first = true then x.2 else x.2 + p.gain) (agreedEnds p.errs row f).2 < max (if first = true then x.1 else x.1 - p.drop) (agreedEnds p.errs row f).1 then none
  else some (max (if first = true then x.1 else x.1 - p.drop) (agreedEnds p.errs row f).1, min (if first = true then x.2 else x.2 + p.gain) (agreedEnds p.errs row f).2)
def stepG (p : Post) (row : List Int) (first : Bool) (g : Int → Option (Int × Int)) : Int → Option (Int × Int) := fun f => (g f).bind (stepX p row first f)
def partG (p : Post) (row : List Int) (first : Bool) (g : Int → Option (Int × Int)) (i : Nat) : Int → Option (Int × Int) := fun f => if f < (i : Int) - 1 then stepG p row first g f else g f
structure PostOK (p : Post) : Prop where
  len : 1 ≤ p.errs.length ∧ p.errs.length ≤ 10
  errs : ∀ i, i < p.errs.length → 0 ≤ p.errs.getD i 0 ∧ p.errs.getD i 0 ≤ 1000
  gain : 0 ≤ p.gain ∧ p.gain ≤ 200
  drop : 0 ≤ p.drop ∧ p.drop ≤ 200
  fall : 1 ≤ p.fall ∧ p.fall ≤ 1000
  out : 0 ≤ p.out ∧ p.out ≤ 60
  ahead : 0 ≤ p.ahead ∧ p.ahead ≤ 60
structure RowOK (p : Post) (row : List Int) : Prop where
  len : row.length = p.errs.length
  reads : ∀ i, i < row.length → -1000 ≤ row.getD i 0 ∧ row.getD i 0 ≤ 2000
def GOK (g : Int → Option (Int × Int)) : Prop := ∀ f x, g f = some x → 0 ≤ x.1 ∧ x.1 ≤ x.2 ∧ x.2 ≤ 1000
def nxH (p : Post) (row : List Int) (first : Bool) (m : List (Int × Int × Int)) : List (Option ABlk) :=
  [some (.cells 119 1 0 (watchC p 1)), some (.map (mpC m)), some (.cells 86 1 0 [.ptr 0 0 0]), some (.cells 22 1 0 [sl row]), some (.cells 4 1 0 [.bool first]), some (.cells 122 1 0 [.fn (.func 64) [.agg (postC p)] []]), some (.cells 86 1 0 [.ptr 0 0 0])]
def nxT (row : List Int) : List AV := mkT 76 [(3, .ptr 2 0 0), (4, .ptr 3 0 0), (5, .ptr 4 0 0), (6, .ptr 5 0 0), (16, .fn (.func 81) [] [.ptr 6 0 0])]
theorem part_zero {p : Post} {row : List Int} {first : Bool} {g : Int → Option (Int × Int)} : canon p.errs.length (partG p row first g 0) = canon p.errs.length g :=
  canon_congr fun j h1 h2 => by simp only [partG]; rw [if_neg (by omega)]
theorem part_all {p : Post} {row : List Int} {first : Bool} {g : Int → Option (Int × Int)} {i : Nat} (h : p.errs.length < i) : canon p.errs.length (partG p row first g i) = canon p.errs.length (stepG p row first g) :=
  canon_congr fun j h1 h2 => by simp only [partG]; rw [if_pos (by omega)]
theorem part_succ {p : Post} {row : List Int} {first : Bool} {g : Int → Option (Int × Int)} {i : Nat} : partG p row first g (i + 1) = updI (partG p row first g i) ((i : Int) - 1) (stepG p row first g ((i : Int) - 1)) := by
  funext f
  simp only [partG, updI]
  by_cases e : f = (i : Int) - 1
  · rw [if_pos e, if_pos (by omega), e]
  · rw [if_neg e]
    by_cases h : f < (i : Int) - 1
    · rw [if_pos h, if_pos (by omega)]
    · rw [if_neg h, if_neg (by omega)]
theorem next_c (p : Post) (g : Int → Option (Int × Int)) (row : List Int) (first : Bool) (hp : PostOK p) (hr : RowOK p row) (hg : GOK g) : SemF Try.prog 45 [.ptr 0 0 0, sl row, .bool first] [some (.cells 119 1 0 (watchC p 1)), some (.map (mpC (canon p.errs.length g)))] (.tup []) [some (.cells 119 1 0 (watchC p 1)), some (.map (mpC (canon p.errs.length (stepG p row first g))))] := by
  obtain ⟨hl1, hl2⟩ := hp.len
  (refine semF_of_awp (ys := []) (fun w args => Try.call45 ..) Try.func45 rfl (fun w0 m0 wz => ?_); simp only [Try.ntmps45, Try.results45, initT, junks, postC, watchC, sl, List.toList_toArray, List.cons_append, List.nil_append, List.length_cons, List.length_nil, Nat.reduceAdd, Nat.reduceSub])
  ((repeat refine awp_seqK ?_); refine awp_region ?_; simp (maxSteps := 4000000) only [go_sem, seval, List.append_eq, List.cons_append, List.nil_append, postC, watchC]; refine kt ?_)
  ((repeat refine awp_seqK ?_); refine awp_region ?_; simp (maxSteps := 4000000) only [go_sem, seval, List.append_eq, List.cons_append, List.nil_append, postC, watchC]; refine kt ?_)
  ((repeat refine awp_seqK ?_); refine awp_ownN 1 rfl ?_; simp (maxSteps := 4000000) only [go_sem, seval, List.append_eq, List.cons_append, List.nil_append, postC, watchC, List.take_succ_cons, List.take_zero]; refine own_go (failing_c p (canon p.errs.length g)) [0, 1] rfl (by simp (maxSteps := 4000000) only [go_sem, seval, List.append_eq, List.cons_append, List.nil_append, postC, watchC]) (by simp (maxSteps := 4000000) only [go_sem, seval, List.append_eq, List.cons_append, List.nil_append, postC, watchC, Nat.lt_irrefl] <;> decide) rfl ?_; simp (maxSteps := 4000000) only [go_sem, seval, List.append_eq, List.cons_append, List.nil_append, postC, watchC]; refine kt ?_)
  refine awp_block ?_
  refine AWP.le2 (s' := ⟨nxT row, nxH p row first (canon p.errs.length g), []⟩) (by simp only [nxT, nxH, postC, watchC]; simp (maxSteps := 4000000) only [go_sem, seval, List.append_eq, List.cons_append, List.nil_append, postC, watchC]) ?_
  refine awp_rangeZ (gf := 81) (first := []) (caps := [.ptr 6 0 0]) (by simp only [nxT]; simp (maxSteps := 4000000) only [go_sem, seval, List.append_eq, List.cons_append, List.nil_append, postC, watchC]) 7 rfl ?_
  intro ca cb hca hcb
  refine ⟨.tup [], nxH p row first (canon p.errs.length (stepG p row first g)) ++ [some (.dfr true), some (.loop .ready none 0 (nxT row) #[17, 18] ca cb 7)], .ready, none, .normal, ?_, ?_, by simp, rfl, ?_⟩
  · simp only [nxH, nxT, postC, watchC]
    simp (maxSteps := 4000000) only [go_sem, seval, List.append_eq, List.cons_append, List.nil_append, postC, watchC]
    (refine semF_of_awp (ys := []) (fun w args => Try.call81 ..) Try.func81 rfl (fun w0 m0 wz => ?_); simp only [Try.ntmps81, Try.results81, initT, junks, postC, watchC, sl, List.toList_toArray, List.cons_append, List.nil_append, List.length_cons, List.length_nil, Nat.reduceAdd, Nat.reduceSub])
    (repeat' (first
 | refine awp_seqK ?_
 | refine kt ?_
 | refine And.intro ?_ ?_
 | ((first | refine awp_stp rfl ?_ | refine awp_draw (by kernel_rfl) (by kernel_rfl) ?_ | refine Imp.le2 ?_ | refine go_split (fun _h => ?_) (fun _h => ?_)) <;> try simp (maxSteps := 4000000) only [go_sem, seval, List.append_eq, List.cons_append, List.nil_append, postC, watchC])
 | intro _h
 | refine awp_block ?_
 | refine awp_scope ?_
 | (show heapOK _ _ = true; kernel_rfl)
 | (show heapOK2 _ _ = true; kernel_rfl)
 | (omega)))
    refine awp_loopN (p.errs.length + 1) (fun i => ⟨mkT 33 [(0, .fn (.yield 8) [] []), (1, .ptr 6 0 0), (3, .int .i64 ((i : Int) - 1))], nxH p row first (canon p.errs.length (partG p row first g i)) ++ [some (.dfr true), some (.loop .ready none 0 (nxT row) #[17, 18] ca cb 7)], []⟩) (.le2 ?_) ?_
    · simp only [nxH, nxT, postC, watchC]; simp (maxSteps := 4000000) only [go_sem, seval, List.append_eq, List.cons_append, List.nil_append, postC, watchC]
      rw [part_zero]
      all_goals first | rfl | exact ⟨rfl, rfl⟩ | all_goals first | rfl | exact ⟨rfl, rfl⟩ | exact ⟨rfl, rfl, rfl⟩
    · intro i hi
      have hgi := canon_get (n := p.errs.length) (g := partG p row first g i) (j := (i : Int) - 1) (by omega)
      have hgi' : partG p row first g i ((i : Int) - 1) = g ((i : Int) - 1) := by simp only [partG]; rw [if_neg (by omega)]
      cases hx : g ((i : Int) - 1) with
      | none =>
        simp only [nxH, nxT, postC, watchC]; simp (maxSteps := 4000000) only [go_sem, seval, List.append_eq, List.cons_append, List.nil_append, postC, watchC]
        (repeat' (first
 | ((rw [mget_none ((hgi (by omega)).trans (hgi'.trans hx))]; simp (maxSteps := 4000000) only [go_sem, seval, List.append_eq, List.cons_append, List.nil_append, postC, watchC]))
 | ((show zeroOK _ = true; rfl))
 | refine awp_seqK ?_
 | refine kt ?_
 | refine And.intro ?_ ?_
 | ((first | refine awp_stp rfl ?_ | refine awp_draw (by kernel_rfl) (by kernel_rfl) ?_ | refine Imp.le2 ?_ | refine go_split (fun _h => ?_) (fun _h => ?_)) <;> try simp (maxSteps := 4000000) only [go_sem, seval, List.append_eq, List.cons_append, List.nil_append, postC, watchC])
 | intro _h
 | refine awp_block ?_
 | refine awp_scope ?_
 | (show heapOK _ _ = true; kernel_rfl)
 | (show heapOK2 _ _ = true; kernel_rfl)
 | (omega)))
        · have e : partG p row first g (i + 1) = partG p row first g i := by
            rw [part_succ]; funext f; simp only [updI]
            by_cases e : f = (i : Int) - 1
            · rw [if_pos e, e, hgi', hx]; simp [stepG, hx]
            · rw [if_neg e]
          rw [e]
        · rw [part_all (by omega)]
      | some x =>
        simp only [nxH, nxT, postC, watchC]; simp (maxSteps := 4000000) only [go_sem, seval, List.append_eq, List.cons_append, List.nil_append, postC, watchC]
        (repeat' (first
 | ((rw [mget_some ((hgi (by omega)).trans (hgi'.trans hx))]; simp (maxSteps := 4000000) only [go_sem, seval, List.append_eq, List.cons_append, List.nil_append, postC, watchC]))
 | ((show zeroOK _ = true; rfl))
 | ((refine awp_ownN 5 rfl ?_; simp (maxSteps := 4000000) only [go_sem, seval, List.append_eq, List.cons_append, List.nil_append, postC, watchC, List.take_succ_cons, List.take_zero]; refine callH_yield true (nxH p row first (canon p.errs.length (partG p row first g (i + 1))) ++ [some (.dfr true), some (.loop .ready none 0 (nxT row) #[17, 18] ca cb 7), some (.cells 121 1 0 [.int .i64 x.1, .int .i64 x.2])]) ?_ ?_ <;> simp only [nxH, nxT, postC, watchC] <;> (try simp (maxSteps := 4000000) only [go_sem, seval, List.append_eq, List.cons_append, List.nil_append, postC, watchC])))
 | refine awp_seqK ?_
 | refine kt ?_
 | refine And.intro ?_ ?_
 | ((first | refine awp_stp rfl ?_ | refine awp_draw (by kernel_rfl) (by kernel_rfl) ?_ | refine Imp.le2 ?_ | refine go_split (fun _h => ?_) (fun _h => ?_)) <;> try simp (maxSteps := 4000000) only [go_sem, seval, List.append_eq, List.cons_append, List.nil_append, postC, watchC])
 | intro _h
 | refine awp_block ?_
 | refine awp_scope ?_
 | (show heapOK _ _ = true; kernel_rfl)
 | (show heapOK2 _ _ = true; kernel_rfl)
 | (omega)))
        · have hx1 := hg _ _ hx
          have hd := hp.drop
          have hga := hp.gain
          have hag := agreed_c p row ((i : Int) - 1) hr.len (by have := hr.len; omega) hr.reads hp.errs
          simp only [postC] at hag
          have hst : stepG p row first g ((i : Int) - 1) = stepX p row first ((i : Int) - 1) x := by simp [stepG, hx]
          rw [part_succ, hst]
          simp only [stepX]
          generalize agreedEnds p.errs row ((i : Int) - 1) = y at *
          obtain ⟨y1, y2⟩ := y
          cases first
          · refine semY_of_awpZ rfl rfl ?_
            intro B w0 l m w
            refine awp_code hca ?_
            (repeat' (first
 | refine awp_seqK ?_
 | refine kt ?_
 | refine And.intro ?_ ?_
 | ((first | refine awp_stp rfl ?_ | refine awp_draw (by kernel_rfl) (by kernel_rfl) ?_ | refine Imp.le2 ?_ | refine go_split (fun _h => ?_) (fun _h => ?_)) <;> try simp (maxSteps := 4000000) only [go_sem, seval, List.append_eq, List.cons_append, List.nil_append, postC, watchC])
 | intro _h
 | refine awp_block ?_
 | refine awp_scope ?_
 | (show heapOK _ _ = true; kernel_rfl)
 | (show heapOK2 _ _ = true; kernel_rfl)
 | (omega)))
            refine awp_code hcb ?_
            (repeat' (first
 | refine awp_seqK ?_
 | refine kt ?_
 | refine And.intro ?_ ?_
 | ((first | refine awp_stp rfl ?_ | refine awp_draw (by kernel_rfl) (by kernel_rfl) ?_ | refine Imp.le2 ?_ | refine callK_of (hag) ?_ | refine callK_of (greatest_c _ _ _) ?_ | refine callK_of (least_c _ _ _) ?_ | refine callK_of (nothing_c) ?_ | refine go_split (fun _h => ?_) (fun _h => ?_)) <;> try simp (maxSteps := 4000000) only [go_sem, seval, List.append_eq, List.cons_append, List.nil_append, postC, watchC])
 | intro _h
 | refine awp_block ?_
 | refine awp_scope ?_
 | (show heapOK _ _ = true; kernel_rfl)
 | (show heapOK2 _ _ = true; kernel_rfl)
 | (omega)))
            all_goals simp only [Bool.false_eq_true, if_false, if_true, Prod.mk.injEq]
            all_goals first
              | (rw [canon_del, if_pos (by omega)])
              | (rw [canon_put (by omega) (by omega) (.inl (by rw [hgi', hx]; rfl)), if_neg (by omega)])
          · refine semY_of_awpZ rfl rfl ?_
            intro B w0 l m w
            refine awp_code hca ?_
            (repeat' (first
 | refine awp_seqK ?_
 | refine kt ?_
 | refine And.intro ?_ ?_
 | ((first | refine awp_stp rfl ?_ | refine awp_draw (by kernel_rfl) (by kernel_rfl) ?_ | refine Imp.le2 ?_ | refine go_split (fun _h => ?_) (fun _h => ?_)) <;> try simp (maxSteps := 4000000) only [go_sem, seval, List.append_eq, List.cons_append, List.nil_append, postC, watchC])
 | intro _h
 | refine awp_block ?_
 | refine awp_scope ?_
 | (show heapOK _ _ = true; kernel_rfl)
 | (show heapOK2 _ _ = true; kernel_rfl)
 | (omega)))
            refine awp_code hcb ?_
            (repeat' (first
 | refine awp_seqK ?_
 | refine kt ?_
 | refine And.intro ?_ ?_
 | ((first | refine awp_stp rfl ?_ | refine awp_draw (by kernel_rfl) (by kernel_rfl) ?_ | refine Imp.le2 ?_ | refine callK_of (hag) ?_ | refine callK_of (greatest_c _ _ _) ?_ | refine callK_of (least_c _ _ _) ?_ | refine callK_of (nothing_c) ?_ | refine go_split (fun _h => ?_) (fun _h => ?_)) <;> try simp (maxSteps := 4000000) only [go_sem, seval, List.append_eq, List.cons_append, List.nil_append, postC, watchC])
 | intro _h
 | refine awp_block ?_
 | refine awp_scope ?_
 | (show heapOK _ _ = true; kernel_rfl)
 | (show heapOK2 _ _ = true; kernel_rfl)
 | (omega)))
            all_goals simp only [Bool.false_eq_true, if_false, if_true, Prod.mk.injEq]
            all_goals first
              | (rw [canon_del, if_pos (by omega)])
              | (rw [canon_put (by omega) (by omega) (.inl (by rw [hgi', hx]; rfl)), if_neg (by omega)])
        · rw [part_all (by omega)]
  · rfl
  · simp only [nxH, nxT, postC, watchC]
    simp (maxSteps := 4000000) only [go_sem, seval, List.append_eq, List.cons_append, List.nil_append, postC, watchC]
end Al
end Go.Am

/- Contracts of the alarm functions: lists of which each element is right. -/
namespace Go.Am
namespace Al
open Go.RowKit Go.Proofs
attribute [local irreducible] AWP CallS Kt goK CallK stepK evOps
set_option maxRecDepth 4000
set_option linter.unusedSimpArgs false
set_option linter.unusedVariables false
set_option maxHeartbeats 400000
/-- The place of the first one, or -1. -/
def idxOf {α : Type} (q : α → Bool) (l : List α) : Int := match l.findIdx? q with | some i => i | none => -1
theorem idxOf_some {α : Type} {q : α → Bool} {l : List α} {d : α} {i : Nat} (hi : i < l.length) (h : q (l.getD i d) = true) (hj : ∀ j, j < i → q (l.getD j d) = false) : (i : Int) = idxOf q l := by
  have : l.findIdx? q = some i := by
    rw [List.findIdx?_eq_some_iff_getElem]
    refine ⟨hi, by simpa [List.getD_eq_getElem?_getD, hi] using h, fun j hji => ?_⟩
    have := hj j hji
    simpa [List.getD_eq_getElem?_getD, Nat.lt_trans hji hi] using this
  simp [idxOf, this]
theorem idxOf_none {α : Type} {q : α → Bool} {l : List α} {d : α} (hj : ∀ j, j < l.length → q (l.getD j d) = false) : -1 = idxOf q l := by
  have : l.findIdx? q = none := by
    rw [List.findIdx?_eq_none_iff]
    intro x hx
    obtain ⟨j, hjl, rfl⟩ := List.mem_iff_getElem.1 hx
    have := hj j hjl
    simpa [List.getD_eq_getElem?_getD, hjl] using this
  simp [idxOf, this]
theorem idxOf_ge {α : Type} {q : α → Bool} {l : List α} : decide (0 ≤ idxOf q l) = l.any q := by
  unfold idxOf
  cases h : l.findIdx? q with
  | none =>
    rw [List.findIdx?_eq_none_iff] at h
    have : l.any q = false := by rw [List.any_eq_false]; intro x hx; simp [h x hx]
    simp [this]
  | some i =>
    rw [List.findIdx?_eq_some_iff_getElem] at h
    obtain ⟨h1, h2, _⟩ := h
    have : l.any q = true := by rw [List.any_eq_true]; exact ⟨_, List.getElem_mem h1, h2⟩
    simp [this]
theorem idx_int (l : List Int) (g : FuncId) (fv : AV) (q : Int → Bool) (hl : l.length ≤ 9223372036854775807) (hq : ∀ i, i < l.length → CallS Try.prog g [.int .i64 (l.getD i 0), .pptr [fv] 0] (.bool (q (l.getD i 0)))) :
    CallS Try.prog 80 [sl l, .fn (.func g) [] [.pptr [fv] 0]] (.int .i64 (idxOf q l)) := by
  (refine callS_of_awp (fun w args => Try.call80 ..) Try.func80 rfl (fun w0 m0 wz => ?_); simp only [Try.ntmps80, Try.results80, initT, junks, sl, List.toList_toArray, List.cons_append, List.nil_append, List.length_cons, List.length_nil, Nat.reduceAdd, Nat.reduceSub])
  (repeat' (first
 | refine awp_seqK ?_
 | refine kt ?_
 | refine And.intro ?_ ?_
 | ((first | refine awp_stp rfl ?_ | refine awp_draw (by kernel_rfl) (by kernel_rfl) ?_ | refine Imp.le2 ?_ | refine go_split (fun _h => ?_) (fun _h => ?_)) <;> try simp (maxSteps := 4000000) only [go_sem, seval, List.append_eq, List.cons_append, List.nil_append])
 | intro _h
 | refine awp_block ?_
 | refine awp_scope ?_
 | (show heapOK _ _ = true; kernel_rfl)
 | (show heapOK2 _ _ = true; kernel_rfl)
 | (omega)))
  refine awp_loopJ (fun i : Nat => i ≤ l.length ∧ ∀ j, j < i → q (l.getD j 0) = false) (fun i => ⟨mkT 19 [(0, sl l), (1, .fn (.func g) [] [.pptr [fv] 0]), (6, sl l), (7, .int .i64 l.length), (8, .int .i64 i)], [], []⟩) (fun i => l.length - i) 0 ⟨Nat.zero_le _, by simp⟩ (.le2 ?_) ?_
  · simp (maxSteps := 4000000) only [go_sem, seval, List.append_eq, List.cons_append, List.nil_append]
  · rintro i ⟨hi, hj⟩
    simp (maxSteps := 4000000) only [go_sem, seval, List.append_eq, List.cons_append, List.nil_append]
    (repeat' (first
 | refine awp_seqK ?_
 | refine kt ?_
 | refine And.intro ?_ ?_
 | ((first | refine awp_stp rfl ?_ | refine awp_draw (by kernel_rfl) (by kernel_rfl) ?_ | refine Imp.le2 ?_ | refine callK_of (hq i (by omega)) ?_ | refine go_split (fun _h => ?_) (fun _h => ?_)) <;> try simp (maxSteps := 4000000) only [go_sem, seval, List.append_eq, List.cons_append, List.nil_append])
 | intro _h
 | refine awp_block ?_
 | refine awp_scope ?_
 | (show heapOK _ _ = true; kernel_rfl)
 | (show heapOK2 _ _ = true; kernel_rfl)
 | (omega)))
    · exact idxOf_some (by omega) ‹_› hj
    · refine ⟨i + 1, ⟨by omega, fun j hji => ?_⟩, by omega, .le2 ?_⟩
      · rcases Nat.lt_succ_iff_lt_or_eq.1 hji with h | rfl
        · exact hj j h
        · assumption
      · simp (maxSteps := 4000000) only [go_sem, seval, List.append_eq, List.cons_append, List.nil_append]
        omega
    · exact idxOf_none (d := 0) (fun j hjl => hj j (by omega))
theorem has_int (l : List Int) (g : FuncId) (fv : AV) (q : Int → Bool) (hl : l.length ≤ 9223372036854775807) (hq : ∀ i, i < l.length → CallS Try.prog g [.int .i64 (l.getD i 0), .pptr [fv] 0] (.bool (q (l.getD i 0)))) :
    CallS Try.prog 62 [sl l, .fn (.func g) [] [.pptr [fv] 0]] (.bool (l.any q)) := by
  rw [← idxOf_ge]
  (refine callS_of_awp (fun w args => Try.call62 ..) Try.func62 rfl (fun w0 m0 wz => ?_); simp only [Try.ntmps62, Try.results62, initT, junks, sl, List.toList_toArray, List.cons_append, List.nil_append, List.length_cons, List.length_nil, Nat.reduceAdd, Nat.reduceSub])
  (repeat' (first
 | refine awp_seqK ?_
 | refine kt ?_
 | refine And.intro ?_ ?_
 | ((first | refine awp_stp rfl ?_ | refine awp_draw (by kernel_rfl) (by kernel_rfl) ?_ | refine Imp.le2 ?_ | refine callK_of (idx_int l g fv q hl hq) ?_ | refine go_split (fun _h => ?_) (fun _h => ?_)) <;> try simp (maxSteps := 4000000) only [go_sem, seval, List.append_eq, List.cons_append, List.nil_append])
 | intro _h
 | refine awp_block ?_
 | refine awp_scope ?_
 | (show heapOK _ _ = true; kernel_rfl)
 | (show heapOK2 _ _ = true; kernel_rfl)
 | (omega)))
theorem all1_int (n : Int) (f : FuncId) (q : Bool) (hq : CallS Try.prog f [.int .i64 n] (.bool q)) : CallS Try.prog 63 [.int .i64 n, .pptr [.fn (.func f) [] []] 0] (.bool (!q)) := by
  (refine callS_of_awp (fun w args => Try.call63 ..) Try.func63 rfl (fun w0 m0 wz => ?_); simp only [Try.ntmps63, Try.results63, initT, junks, sl, List.toList_toArray, List.cons_append, List.nil_append, List.length_cons, List.length_nil, Nat.reduceAdd, Nat.reduceSub])
  (repeat' (first
 | refine awp_seqK ?_
 | refine kt ?_
 | refine And.intro ?_ ?_
 | ((first | refine awp_stp rfl ?_ | refine awp_draw (by kernel_rfl) (by kernel_rfl) ?_ | refine Imp.le2 ?_ | refine callK_of (hq) ?_ | refine go_split (fun _h => ?_) (fun _h => ?_)) <;> try simp (maxSteps := 4000000) only [go_sem, seval, List.append_eq, List.cons_append, List.nil_append])
 | intro _h
 | refine awp_block ?_
 | refine awp_scope ?_
 | (show heapOK _ _ = true; kernel_rfl)
 | (show heapOK2 _ _ = true; kernel_rfl)
 | (omega))) <;> simp [*]
theorem all_int (l : List Int) (f : FuncId) (q : Int → Bool) (hl : l.length ≤ 9223372036854775807) (hq : ∀ i, i < l.length → CallS Try.prog f [.int .i64 (l.getD i 0)] (.bool (q (l.getD i 0)))) :
    CallS Try.prog 41 [sl l, .fn (.func f) [] []] (.bool (l.all q)) := by
  have hany : l.all q = !l.any (fun x => !q x) := by simp [List.all_eq_not_any_not]
  rw [hany]
  (refine callS_of_awp (fun w args => Try.call41 ..) Try.func41 rfl (fun w0 m0 wz => ?_); simp only [Try.ntmps41, Try.results41, initT, junks, sl, List.toList_toArray, List.cons_append, List.nil_append, List.length_cons, List.length_nil, Nat.reduceAdd, Nat.reduceSub])
  ((repeat refine awp_seqK ?_); refine awp_region ?_; simp (maxSteps := 4000000) only [go_sem, seval, List.append_eq, List.cons_append, List.nil_append]; refine kt ?_)
  (refine awp_frz 0 rfl (by simp (maxSteps := 4000000) only [go_sem, seval, List.append_eq, List.cons_append, List.nil_append]) (fun _ => rfl) ?_; simp only [frz, fzl, fz2, fz1, fz0, fzH, fzHs, fzO, fzB, List.map_cons, List.map_nil, if_true, if_false, reduceIte, Nat.reduceEqDiff, Nat.reduceAdd, Nat.succ_ne_self, Nat.zero_ne_one, Nat.one_ne_zero, reduceCtorEq, and_self])
  (repeat' (first
 | refine awp_seqK ?_
 | refine kt ?_
 | refine And.intro ?_ ?_
 | ((first | refine awp_stp rfl ?_ | refine awp_draw (by kernel_rfl) (by kernel_rfl) ?_ | refine Imp.le2 ?_ | refine callK_of (has_int l 63 (.fn (.func f) [] []) (fun x => !q x) hl (fun i hi => all1_int _ _ _ (hq i hi))) ?_ | refine go_split (fun _h => ?_) (fun _h => ?_)) <;> try simp (maxSteps := 4000000) only [go_sem, seval, List.append_eq, List.cons_append, List.nil_append])
 | intro _h
 | refine awp_block ?_
 | refine awp_scope ?_
 | (show heapOK _ _ = true; kernel_rfl)
 | (show heapOK2 _ _ = true; kernel_rfl)
 | (omega))) <;> simp only [*, Bool.not_true, Bool.not_false]
end Al
end Go.Am

/- Contracts of the alarm functions: rules, seasons. -/
namespace Go.Am
namespace Al
open Go.RowKit Go.Proofs
attribute [local irreducible] AWP CallS Kt goK CallK stepK evOps
set_option maxRecDepth 4000
set_option linter.unusedSimpArgs false
set_option linter.unusedVariables false
set_option maxHeartbeats 400000
def ruleC (r : Rule) : List AV := [.int .i64 r.start, .int .i64 r.back, .int .i64 r.hold]
def seasonC (s : Season) : List AV := [sl s.speeds, .bool s.fell]
/-- A list of seasons. -/
def slS (l : List Season) : AV := .psl false l.length (recs seasonC l)
section
variable {α : Type} {enc : α → List AV} {sz : Nat} {l : List α} {d : α} {P : Program} {t : TypeId}
theorem ld_recs (ht : tagg P t = some true) (hs : tsz P t = some sz) (he : ∀ a, (enc a).length = sz) (hz : 0 < sz) {i : Nat} {K : AV → Prop} : loadK P t (recs enc l) (i * sz) K = (i < l.length ∧ K (.agg (enc (l.getD i d)))) := by
  simp only [loadK, ht, hs, recs_length he]
  by_cases hi : i < l.length
  · have : i * sz + sz ≤ l.length * sz := by
      rw [show i * sz + sz = (i + 1) * sz by rw [Nat.add_mul, Nat.one_mul]]; exact Nat.mul_le_mul_right _ hi
    rw [recs_window (d := d) he hi]
    simp [this, hi]
  · have : ¬ i * sz + sz ≤ l.length * sz := by
      intro h
      rw [show i * sz + sz = (i + 1) * sz by rw [Nat.add_mul, Nat.one_mul]] at h
      have := Nat.le_of_mul_le_mul_right h hz
      omega
    simp [this, hi]
theorem nth_recs (he : ∀ a, (enc a).length = sz) {i o : Nat} (ho : o < sz) {K : AV → Prop} : optK (nth (recs enc l) (i * sz + o)) K = (i < l.length ∧ optK (nth (enc (l.getD i d)) o) K) := by
  by_cases hi : i < l.length
  · rw [recs_nth (d := d) he hi ho]; simp [hi]
  · have : nth (recs enc l) (i * sz + o) = none := by
      rw [← nth_is, List.getElem?_eq_none]
      rw [recs_length he]
      have := Nat.mul_le_mul_right sz (Nat.le_of_not_lt hi)
      omega
    simp [this, hi, optK]
end
theorem len_S {l : List Season} : (recs seasonC l).length = l.length * 2 := recs_length fun _ => rfl
attribute [go_sem] len_S
theorem list_c (l : List Int) (hl : l.length ≤ 1000000) : CallS Try.prog 23 [sl l] (sl l) := by
  (refine callS_of_awp (fun w args => Try.call23 ..) Try.func23 rfl (fun w0 m0 wz => ?_); simp only [Try.ntmps23, Try.results23, initT, junks, ruleC, seasonC, slS, sl, List.toList_toArray, List.cons_append, List.nil_append, List.length_cons, List.length_nil, Nat.reduceAdd, Nat.reduceSub])
  (repeat' (first
 | refine awp_seqK ?_
 | refine kt ?_
 | refine And.intro ?_ ?_
 | ((first | refine awp_stp rfl ?_ | refine awp_draw (by kernel_rfl) (by kernel_rfl) ?_ | refine Imp.le2 ?_ | refine go_split (fun _h => ?_) (fun _h => ?_)) <;> try simp (maxSteps := 4000000) only [go_sem, seval, List.append_eq, List.cons_append, List.nil_append, ruleC, seasonC, slS])
 | intro _h
 | refine awp_block ?_
 | refine awp_scope ?_
 | (show heapOK _ _ = true; kernel_rfl)
 | (show heapOK2 _ _ = true; kernel_rfl)
 | (omega)))
theorem in_c (n lo hi : Int) : CallS Try.prog 14 [.int .i64 n, .int .i64 lo, .int .i64 hi] (.bool (decide (lo ≤ n ∧ n ≤ hi))) := by
  (refine callS_of_awp (fun w args => Try.call14 ..) Try.func14 rfl (fun w0 m0 wz => ?_); simp only [Try.ntmps14, Try.results14, initT, junks, ruleC, seasonC, slS, sl, List.toList_toArray, List.cons_append, List.nil_append, List.length_cons, List.length_nil, Nat.reduceAdd, Nat.reduceSub])
  (repeat' (first
 | refine awp_seqK ?_
 | refine kt ?_
 | refine And.intro ?_ ?_
 | ((first | refine awp_stp rfl ?_ | refine awp_draw (by kernel_rfl) (by kernel_rfl) ?_ | refine Imp.le2 ?_ | refine go_split (fun _h => ?_) (fun _h => ?_)) <;> try simp (maxSteps := 4000000) only [go_sem, seval, List.append_eq, List.cons_append, List.nil_append, ruleC, seasonC, slS])
 | intro _h
 | refine awp_block ?_
 | refine awp_scope ?_
 | (show heapOK _ _ = true; kernel_rfl)
 | (show heapOK2 _ _ = true; kernel_rfl)
 | (omega)))
end Al
end Go.Am

/- Contracts of the alarm functions: the errors of posts with reads, levels. -/
namespace Go.Am
namespace Al
open Go.RowKit Go.Proofs
attribute [local irreducible] AWP CallS Kt goK CallK stepK evOps SemF SemY
set_option maxRecDepth 4000
set_option linter.unusedSimpArgs false
set_option linter.unusedVariables false
set_option maxHeartbeats 1600000
/-- Lists of lists of numbers. -/
def rowsC (l : List (List Int)) : List AV := l.map sl
def sll (l : List (List Int)) : AV := .psl false l.length (rowsC l)
theorem rowsC_length {l : List (List Int)} : (rowsC l).length = l.length := by simp [rowsC]
theorem rowsC_nil : rowsC [] = [] := rfl
theorem rowsC_snoc {l : List (List Int)} {r : List Int} : rowsC (l ++ [r]) = rowsC l ++ [sl r] := by simp [rowsC]
theorem pl_rows {l : List (List Int)} : pureL (rowsC l) = True := by
  simp only [pureL, rowsC, List.mem_map, eq_iff_iff, iff_true]
  rintro _ ⟨a, _, rfl⟩; rfl
theorem lv_rows {l : List (List Int)} {p : Nat → Bool} : (rowsC l).all (live2 p) = true := by
  simp only [rowsC, List.all_map, List.all_eq_true]
  intro z _; rfl
theorem nth_rows {l : List (List Int)} {j : Nat} {K : AV → Prop} : optK (nth (rowsC l) j) K = (j < l.length ∧ K (.psl false (l.getD j []).length (ints (l.getD j [])))) := by
  rw [← nth_is]
  simp only [rowsC, List.getElem?_map]
  by_cases h : j < l.length
  · simp [h, optK, List.getD_eq_getElem?_getD, sl]
  · simp [h, optK]
attribute [go_sem] rowsC_length rowsC_nil pl_rows lv_rows nth_rows
def postB (p : Post) : Bool := decide ((1 ≤ p.errs.length ∧ p.errs.length ≤ 10) ∧ p.errs.all speedB = true ∧ (0 ≤ p.gain ∧ p.gain ≤ 200) ∧ (0 ≤ p.drop ∧ p.drop ≤ 200) ∧ (1 ≤ p.fall ∧ p.fall ≤ 1000) ∧ (0 ≤ p.out ∧ p.out ≤ 60) ∧ (0 ≤ p.ahead ∧ p.ahead ≤ 60))
def readB (n : Int) : Bool := decide (-1000 ≤ n ∧ n ≤ 2000)
def rowB (p : Post) (row : List Int) : Bool := decide (row.length = p.errs.length) && row.all readB
def faultP (p : Post) (reads : List (List Int)) : Int := if postB p = false then 1 else if 60 < reads.length then 3 else if reads.all (rowB p) = true then 0 else 2
theorem hours_c (n : Int) : CallS Try.prog 59 [.int .i64 n] (.bool (decide (0 ≤ n ∧ n ≤ 60))) := by
  (refine callS_of_awp (fun w args => Try.call59 ..) Try.func59 rfl (fun w0 m0 wz => ?_); simp only [Try.ntmps59, Try.results59, initT, junks, postC, watchC, sll, sl, List.toList_toArray, List.cons_append, List.nil_append, List.length_cons, List.length_nil, Nat.reduceAdd, Nat.reduceSub])
  (repeat' (first
 | refine awp_seqK ?_
 | refine kt ?_
 | refine And.intro ?_ ?_
 | ((first | refine awp_stp rfl ?_ | refine awp_draw (by kernel_rfl) (by kernel_rfl) ?_ | refine Imp.le2 ?_ | refine callK_of (within_c _ _ _) ?_ | refine go_split (fun _h => ?_) (fun _h => ?_)) <;> try simp (maxSteps := 4000000) only [go_sem, seval, List.append_eq, List.cons_append, List.nil_append, postC, watchC, sll])
 | intro _h
 | refine awp_block ?_
 | refine awp_scope ?_
 | (show heapOK _ _ = true; kernel_rfl)
 | (show heapOK2 _ _ = true; kernel_rfl)
 | (omega)))
theorem step_c (n : Int) : CallS Try.prog 60 [.int .i64 n] (.bool (decide (0 ≤ n ∧ n ≤ 200))) := by
  (refine callS_of_awp (fun w args => Try.call60 ..) Try.func60 rfl (fun w0 m0 wz => ?_); simp only [Try.ntmps60, Try.results60, initT, junks, postC, watchC, sll, sl, List.toList_toArray, List.cons_append, List.nil_append, List.length_cons, List.length_nil, Nat.reduceAdd, Nat.reduceSub])
  (repeat' (first
 | refine awp_seqK ?_
 | refine kt ?_
 | refine And.intro ?_ ?_
 | ((first | refine awp_stp rfl ?_ | refine awp_draw (by kernel_rfl) (by kernel_rfl) ?_ | refine Imp.le2 ?_ | refine callK_of (within_c _ _ _) ?_ | refine go_split (fun _h => ?_) (fun _h => ?_)) <;> try simp (maxSteps := 4000000) only [go_sem, seval, List.append_eq, List.cons_append, List.nil_append, postC, watchC, sll])
 | intro _h
 | refine awp_block ?_
 | refine awp_scope ?_
 | (show heapOK _ _ = true; kernel_rfl)
 | (show heapOK2 _ _ = true; kernel_rfl)
 | (omega)))
theorem read_c (n : Int) : CallS Try.prog 42 [.int .i64 n] (.bool (readB n)) := by
  unfold readB
  (refine callS_of_awp (fun w args => Try.call42 ..) Try.func42 rfl (fun w0 m0 wz => ?_); simp only [Try.ntmps42, Try.results42, initT, junks, postC, watchC, sll, sl, List.toList_toArray, List.cons_append, List.nil_append, List.length_cons, List.length_nil, Nat.reduceAdd, Nat.reduceSub])
  (repeat' (first
 | refine awp_seqK ?_
 | refine kt ?_
 | refine And.intro ?_ ?_
 | ((first | refine awp_stp rfl ?_ | refine awp_draw (by kernel_rfl) (by kernel_rfl) ?_ | refine Imp.le2 ?_ | refine callK_of (within_c _ _ _) ?_ | refine go_split (fun _h => ?_) (fun _h => ?_)) <;> try simp (maxSteps := 4000000) only [go_sem, seval, List.append_eq, List.cons_append, List.nil_append, postC, watchC, sll])
 | intro _h
 | refine awp_block ?_
 | refine awp_scope ?_
 | (show heapOK _ _ = true; kernel_rfl)
 | (show heapOK2 _ _ = true; kernel_rfl)
 | (omega)))
theorem valid_c (p : Post) (hb : p.errs.length ≤ 9223372036854775807) : CallS Try.prog 40 [.agg (postC p)] (.bool (postB p)) := by
  have ha := all_int p.errs 61 speedB hb (fun i _ => speed_c _)
  simp only [sl] at ha
  unfold postB
  generalize p.errs.all speedB = al at *
  (refine callS_of_awp (fun w args => Try.call40 ..) Try.func40 rfl (fun w0 m0 wz => ?_); simp only [Try.ntmps40, Try.results40, initT, junks, postC, watchC, sll, sl, List.toList_toArray, List.cons_append, List.nil_append, List.length_cons, List.length_nil, Nat.reduceAdd, Nat.reduceSub])
  (repeat' (first
 | refine awp_seqK ?_
 | refine kt ?_
 | refine And.intro ?_ ?_
 | ((first | refine awp_stp rfl ?_ | refine awp_draw (by kernel_rfl) (by kernel_rfl) ?_ | refine Imp.le2 ?_ | refine callK_of (within_c _ _ _) ?_ | refine callK_of (ha) ?_ | refine callK_of (hours_c _) ?_ | refine callK_of (step_c _) ?_ | refine go_split (fun _h => ?_) (fun _h => ?_)) <;> try simp (maxSteps := 4000000) only [go_sem, seval, List.append_eq, List.cons_append, List.nil_append, postC, watchC, sll])
 | intro _h
 | refine awp_block ?_
 | refine awp_scope ?_
 | (show heapOK _ _ = true; kernel_rfl)
 | (show heapOK2 _ _ = true; kernel_rfl)
 | (omega)))
  all_goals ((try simp only [decide_eq_true_eq, decide_eq_false_iff_not]); simp_all; try omega)
theorem allrows {p : Post} {reads : List (List Int)} {i : Nat} (hi : i < reads.length) (h : rowB p (reads.getD i []) = false) : reads.all (rowB p) = false := by
  rw [List.all_eq_false]
  refine ⟨reads[i], List.getElem_mem hi, ?_⟩
  rw [show reads.getD i [] = reads[i] by simp [List.getD_eq_getElem?_getD, hi]] at h
  simp [h]
theorem allrows' {p : Post} {reads : List (List Int)} (h : ∀ i, i < reads.length → rowB p (reads.getD i []) = true) : reads.all (rowB p) = true := by
  rw [List.all_eq_true]
  intro r hr
  obtain ⟨j, hj, rfl⟩ := List.mem_iff_getElem.1 hr
  have := h j hj
  rwa [show reads.getD j [] = reads[j] by simp [List.getD_eq_getElem?_getD, hj]] at this
theorem check_c (p : Post) (reads : List (List Int)) (hb : p.errs.length ≤ 9223372036854775807) (hr : reads.length ≤ 9223372036854775807) (hrr : ∀ i, i < reads.length → (reads.getD i []).length ≤ 9223372036854775807) : CallS Try.prog 25 [.agg (postC p), sll reads] (.int .i64 (faultP p reads)) := by
  have ha := valid_c p hb
  simp only [postC, sl] at ha
  unfold faultP
  (refine callS_of_awp (fun w args => Try.call25 ..) Try.func25 rfl (fun w0 m0 wz => ?_); simp only [Try.ntmps25, Try.results25, initT, junks, postC, watchC, sll, sl, List.toList_toArray, List.cons_append, List.nil_append, List.length_cons, List.length_nil, Nat.reduceAdd, Nat.reduceSub])
  (repeat' (first
 | refine awp_seqK ?_
 | refine kt ?_
 | refine And.intro ?_ ?_
 | ((first | refine awp_stp rfl ?_ | refine awp_draw (by kernel_rfl) (by kernel_rfl) ?_ | refine Imp.le2 ?_ | refine callK_of (ha) ?_ | refine go_split (fun _h => ?_) (fun _h => ?_)) <;> try simp (maxSteps := 4000000) only [go_sem, seval, List.append_eq, List.cons_append, List.nil_append, postC, watchC, sll])
 | intro _h
 | refine awp_block ?_
 | refine awp_scope ?_
 | (show heapOK _ _ = true; kernel_rfl)
 | (show heapOK2 _ _ = true; kernel_rfl)
 | (omega)))
  · simp [*]; omega
  · refine awp_loopJ (fun i : Nat => i ≤ reads.length ∧ ∀ j, j < i → rowB p (reads.getD j []) = true) (fun i => ⟨mkT 35 [(1, sll reads), (2, .ptr 0 0 0), (5, .int .i64 0), (16, sll reads), (17, .int .i64 reads.length), (18, .int .i64 i)], [some (.cells 50 1 0 (postC p))], []⟩) (fun i => reads.length - i) 0 ⟨Nat.zero_le _, by simp⟩ (.le2 ?_) ?_
    · simp only [postC]; simp (maxSteps := 4000000) only [go_sem, seval, List.append_eq, List.cons_append, List.nil_append, postC, watchC, sll]
    · rintro i ⟨hi, hj⟩
      have hall := all_int (reads.getD i []) 42 readB
      simp only [sl] at hall
      simp only [postC]; simp (maxSteps := 4000000) only [go_sem, seval, List.append_eq, List.cons_append, List.nil_append, postC, watchC, sll]
      (repeat' (first
 | refine awp_seqK ?_
 | refine kt ?_
 | refine And.intro ?_ ?_
 | ((first | refine awp_stp rfl ?_ | refine awp_draw (by kernel_rfl) (by kernel_rfl) ?_ | refine Imp.le2 ?_ | refine callK_of (hall (hrr i (by omega)) (fun k _ => read_c _)) ?_ | refine go_split (fun _h => ?_) (fun _h => ?_)) <;> try simp (maxSteps := 4000000) only [go_sem, seval, List.append_eq, List.cons_append, List.nil_append, postC, watchC, sll])
 | intro _h
 | refine awp_block ?_
 | refine awp_scope ?_
 | (show heapOK _ _ = true; kernel_rfl)
 | (show heapOK2 _ _ = true; kernel_rfl)
 | (omega)))
      · refine ⟨i + 1, ⟨by omega, fun j hji => ?_⟩, by omega, .le2 ?_⟩
        · rcases Nat.lt_succ_iff_lt_or_eq.1 hji with h | rfl
          · exact hj j h
          · simp only [rowB, Bool.and_eq_true, decide_eq_true_eq]; exact ⟨by omega, ‹_›⟩
        · simp (maxSteps := 4000000) only [go_sem, seval, List.append_eq, List.cons_append, List.nil_append, postC, watchC, sll]
          omega
      · rw [if_neg (by simp [*]), if_neg (by omega), if_neg (by rw [allrows (i := i) (by omega) (by simp only [rowB, Bool.and_eq_false_iff]; exact .inr ‹_›)]; simp)]
      · rw [if_neg (by simp [*]), if_neg (by omega), if_neg (by rw [allrows (i := i) (by omega) (by simp only [rowB, Bool.and_eq_false_iff, decide_eq_false_iff_not]; exact .inl (by omega))]; simp)]
      · rw [if_neg (by simp [*]), if_neg (by omega), if_pos (allrows' fun j h => hj j (by omega))]
  · simp [*]
def leftOf (p : Post) (v : Int) : Int := if p.fall ≤ v then 0 else if p.gain = 0 then 1073741824 else (p.fall - v + p.gain - 1).tdiv p.gain
def levelOf (p : Post) (v : Int) : Int := if leftOf p v ≤ p.out then 3 else if leftOf p v ≤ p.out + p.ahead then 2 else if leftOf p v ≤ p.out + 2 * p.ahead then 1 else 0
theorem leftOf_bd {p : Post} {v : Int} (hp : PostOK p) (hv : -1000000 ≤ v) : 0 ≤ leftOf p v ∧ leftOf p v ≤ 1073741824 := by
  have h1 := hp.fall
  have h2 := hp.gain
  unfold leftOf
  split
  · omega
  · split
    · omega
    · have h3 : 0 ≤ p.fall - v + p.gain - 1 := by omega
      rw [Int.tdiv_eq_ediv_of_nonneg h3]
      refine ⟨Int.ediv_nonneg h3 h2.1, ?_⟩
      exact Int.le_trans (Int.ediv_le_self _ h3) (by omega)
theorem left_c (p : Post) (v : Int) (hp : PostOK p) (hv : -1000000 ≤ v ∧ v ≤ 1000000) : CallS Try.prog 82 [.agg (postC p), .int .i64 v] (.int .i64 (leftOf p v)) := by
  have h1 := hp.fall
  have h2 := hp.gain
  have hb := leftOf_bd hp hv.1
  unfold leftOf at *
  (refine callS_of_awp (fun w args => Try.call82 ..) Try.func82 rfl (fun w0 m0 wz => ?_); simp only [Try.ntmps82, Try.results82, initT, junks, postC, watchC, sll, sl, List.toList_toArray, List.cons_append, List.nil_append, List.length_cons, List.length_nil, Nat.reduceAdd, Nat.reduceSub])
  (repeat' (first
 | refine awp_seqK ?_
 | refine kt ?_
 | refine And.intro ?_ ?_
 | ((first | refine awp_stp rfl ?_ | refine awp_draw (by kernel_rfl) (by kernel_rfl) ?_ | refine Imp.le2 ?_ | refine go_split (fun _h => ?_) (fun _h => ?_)) <;> try simp (maxSteps := 4000000) only [go_sem, seval, List.append_eq, List.cons_append, List.nil_append, postC, watchC, sll])
 | intro _h
 | refine awp_block ?_
 | refine awp_scope ?_
 | (show heapOK _ _ = true; kernel_rfl)
 | (show heapOK2 _ _ = true; kernel_rfl)
 | (omega)))
theorem lev1_c (p : Post) : CallS Try.prog 83 [.agg (postC p)] (.int .i64 p.out) := by
  (refine callS_of_awp (fun w args => Try.call83 ..) Try.func83 rfl (fun w0 m0 wz => ?_); simp only [Try.ntmps83, Try.results83, initT, junks, postC, watchC, sll, sl, List.toList_toArray, List.cons_append, List.nil_append, List.length_cons, List.length_nil, Nat.reduceAdd, Nat.reduceSub])
  (repeat' (first
 | refine awp_seqK ?_
 | refine kt ?_
 | refine And.intro ?_ ?_
 | ((first | refine awp_stp rfl ?_ | refine awp_draw (by kernel_rfl) (by kernel_rfl) ?_ | refine Imp.le2 ?_ | refine go_split (fun _h => ?_) (fun _h => ?_)) <;> try simp (maxSteps := 4000000) only [go_sem, seval, List.append_eq, List.cons_append, List.nil_append, postC, watchC, sll])
 | intro _h
 | refine awp_block ?_
 | refine awp_scope ?_
 | (show heapOK _ _ = true; kernel_rfl)
 | (show heapOK2 _ _ = true; kernel_rfl)
 | (omega)))
theorem lev2_c (p : Post) (hp : PostOK p) : CallS Try.prog 84 [.agg (postC p)] (.int .i64 (p.out + p.ahead)) := by
  have := hp.out
  have := hp.ahead
  (refine callS_of_awp (fun w args => Try.call84 ..) Try.func84 rfl (fun w0 m0 wz => ?_); simp only [Try.ntmps84, Try.results84, initT, junks, postC, watchC, sll, sl, List.toList_toArray, List.cons_append, List.nil_append, List.length_cons, List.length_nil, Nat.reduceAdd, Nat.reduceSub])
  (repeat' (first
 | refine awp_seqK ?_
 | refine kt ?_
 | refine And.intro ?_ ?_
 | ((first | refine awp_stp rfl ?_ | refine awp_draw (by kernel_rfl) (by kernel_rfl) ?_ | refine Imp.le2 ?_ | refine go_split (fun _h => ?_) (fun _h => ?_)) <;> try simp (maxSteps := 4000000) only [go_sem, seval, List.append_eq, List.cons_append, List.nil_append, postC, watchC, sll])
 | intro _h
 | refine awp_block ?_
 | refine awp_scope ?_
 | (show heapOK _ _ = true; kernel_rfl)
 | (show heapOK2 _ _ = true; kernel_rfl)
 | (omega)))
theorem lev3_c (p : Post) (hp : PostOK p) : CallS Try.prog 85 [.agg (postC p)] (.int .i64 (p.out + 2 * p.ahead)) := by
  have := hp.out
  have := hp.ahead
  (refine callS_of_awp (fun w args => Try.call85 ..) Try.func85 rfl (fun w0 m0 wz => ?_); simp only [Try.ntmps85, Try.results85, initT, junks, postC, watchC, sll, sl, List.toList_toArray, List.cons_append, List.nil_append, List.length_cons, List.length_nil, Nat.reduceAdd, Nat.reduceSub])
  (repeat' (first
 | refine awp_seqK ?_
 | refine kt ?_
 | refine And.intro ?_ ?_
 | ((first | refine awp_stp rfl ?_ | refine awp_draw (by kernel_rfl) (by kernel_rfl) ?_ | refine Imp.le2 ?_ | refine go_split (fun _h => ?_) (fun _h => ?_)) <;> try simp (maxSteps := 4000000) only [go_sem, seval, List.append_eq, List.cons_append, List.nil_append, postC, watchC, sll])
 | intro _h
 | refine awp_block ?_
 | refine awp_scope ?_
 | (show heapOK _ _ = true; kernel_rfl)
 | (show heapOK2 _ _ = true; kernel_rfl)
 | (omega)))
theorem level_c (p : Post) (v : Int) (hp : PostOK p) (hv : -1000000 ≤ v ∧ v ≤ 1000000) : CallS Try.prog 69 [.agg (postC p), .int .i64 v] (.int .u8 (levelOf p v)) := by
  have k0 := left_c p v hp hv
  have k1 := lev1_c p
  have k2 := lev2_c p hp
  have k3 := lev3_c p hp
  simp only [postC, sl] at k0 k1 k2 k3
  unfold levelOf
  generalize leftOf p v = n at *
  (refine callS_of_awp (fun w args => Try.call69 ..) Try.func69 rfl (fun w0 m0 wz => ?_); simp only [Try.ntmps69, Try.results69, initT, junks, postC, watchC, sll, sl, List.toList_toArray, List.cons_append, List.nil_append, List.length_cons, List.length_nil, Nat.reduceAdd, Nat.reduceSub])
  (repeat' (first
 | refine awp_seqK ?_
 | refine kt ?_
 | refine And.intro ?_ ?_
 | ((first | refine awp_stp rfl ?_ | refine awp_draw (by kernel_rfl) (by kernel_rfl) ?_ | refine Imp.le2 ?_ | refine callK_of (k0) ?_ | refine callK_of (k1) ?_ | refine callK_of (k2) ?_ | refine callK_of (k3) ?_ | refine go_split (fun _h => ?_) (fun _h => ?_)) <;> try simp (maxSteps := 4000000) only [go_sem, seval, List.append_eq, List.cons_append, List.nil_append, postC, watchC, sll])
 | intro _h
 | refine awp_block ?_
 | refine awp_scope ?_
 | (show heapOK _ _ = true; kernel_rfl)
 | (show heapOK2 _ _ = true; kernel_rfl)
 | (omega)))
  (refine awp_rounds 4 ?_; rw [ar_s])
  (repeat' (first
 | ((rw [ar_s]))
 | refine awp_seqK ?_
 | refine kt ?_
 | refine And.intro ?_ ?_
 | ((first | refine awp_stp rfl ?_ | refine awp_draw (by kernel_rfl) (by kernel_rfl) ?_ | refine Imp.le2 ?_ | refine callK_of (k0) ?_ | refine callK_of (k1) ?_ | refine callK_of (k2) ?_ | refine callK_of (k3) ?_ | refine go_split (fun _h => ?_) (fun _h => ?_)) <;> try simp (maxSteps := 4000000) only [go_sem, seval, List.append_eq, List.cons_append, List.nil_append, postC, watchC, sll])
 | intro _h
 | refine awp_block ?_
 | refine awp_scope ?_
 | (show heapOK _ _ = true; kernel_rfl)
 | (show heapOK2 _ _ = true; kernel_rfl)
 | (omega)))
end Al
end Go.Am

/- Contracts of the alarm functions: what may be now. -/
namespace Go.Am
namespace Al
open Go.RowKit Go.Proofs
attribute [local irreducible] AWP CallS Kt goK CallK stepK evOps SemF SemY
set_option maxRecDepth 4000
set_option linter.unusedSimpArgs false
set_option linter.unusedVariables false
set_option maxHeartbeats 1600000
/-- The least and the greatest speed of some gauges' ends. -/
def joinE (s : Option (Int × Int)) (x : Int × Int) : Int × Int := match s with | none => x | some s => (min s.1 x.1, max s.2 x.2)
def hull (g : Int → Option (Int × Int)) : Nat → Option (Int × Int)
  | 0 => none
  | i + 1 => match g ((i : Int) - 1) with | none => hull g i | some x => some (joinE (hull g i) x)
def hLo (s : Option (Int × Int)) : Int := match s with | none => 0 | some s => s.1
def hHi (s : Option (Int × Int)) : Int := match s with | none => 0 | some s => s.2
theorem hull_bd {g : Int → Option (Int × Int)} (hg : GOK g) : ∀ i, (0 ≤ hLo (hull g i) ∧ hLo (hull g i) ≤ 1000) ∧ 0 ≤ hHi (hull g i) ∧ hHi (hull g i) ≤ 1000
  | 0 => by simp [hull, hLo, hHi]
  | i + 1 => by
    have ih := hull_bd hg i
    simp only [hull]
    cases hx : g ((i : Int) - 1) with
    | none => exact ih
    | some x =>
      have := hg _ _ hx
      simp only
      cases hh : hull g i with
      | none => simp only [joinE, hLo, hHi]; omega
      | some s => rw [hh] at ih; simp only [joinE, hLo, hHi] at ih ⊢; omega
def stH (p : Post) (g : Int → Option (Int × Int)) (i : Nat) : List (Option ABlk) :=
  [some (.cells 119 1 0 (watchC p 1)), some (.map (mpC (canon p.errs.length g))), some (.cells 59 1 0 [.int .i64 0, .int .i64 0, .int .u8 0]), some (.cells 59 1 0 [.int .i64 (hLo (hull g i)), .int .i64 (hHi (hull g i)), .int .u8 0]), some (.cells 4 1 0 [.bool (hull g i).isNone]), some (.cells 86 1 0 [.ptr 0 0 0])]
def stT : List AV := mkT 44 [(0, .ptr 0 0 0), (2, .ptr 2 0 0), (3, .bool false), (4, .ptr 3 0 0), (5, .ptr 4 0 0), (10, .fn (.func 81) [] [.ptr 5 0 0])]
theorem state_c (p : Post) (g : Int → Option (Int × Int)) (hp : PostOK p) (hg : GOK g) : SemF Try.prog 46 [.ptr 0 0 0] [some (.cells 119 1 0 (watchC p 1)), some (.map (mpC (canon p.errs.length g)))]
    (.tup [.agg [.int .i64 (hLo (hull g (p.errs.length + 1))), .int .i64 (hHi (hull g (p.errs.length + 1))), .int .u8 (levelOf p (hHi (hull g (p.errs.length + 1))))], .bool (hull g (p.errs.length + 1)).isSome]) [some (.cells 119 1 0 (watchC p 1)), some (.map (mpC (canon p.errs.length g)))] := by
  obtain ⟨hl1, hl2⟩ := hp.len
  (refine semF_of_awp (ys := [.agg [.int .i64 (hLo (hull g (p.errs.length + 1))), .int .i64 (hHi (hull g (p.errs.length + 1))), .int .u8 (levelOf p (hHi (hull g (p.errs.length + 1))))], .bool (hull g (p.errs.length + 1)).isSome]) (fun w args => Try.call46 ..) Try.func46 rfl (fun w0 m0 wz => ?_); simp only [Try.ntmps46, Try.results46, initT, junks, postC, watchC, sll, sl, List.toList_toArray, List.cons_append, List.nil_append, List.length_cons, List.length_nil, Nat.reduceAdd, Nat.reduceSub])
  ((repeat refine awp_seqK ?_); refine awp_region ?_; simp (maxSteps := 4000000) only [go_sem, seval, List.append_eq, List.cons_append, List.nil_append, postC, watchC, sll]; refine kt ?_)
  ((repeat refine awp_seqK ?_); refine awp_region ?_; simp (maxSteps := 4000000) only [go_sem, seval, List.append_eq, List.cons_append, List.nil_append, postC, watchC, sll]; refine kt ?_)
  ((repeat refine awp_seqK ?_); refine awp_ownN 1 rfl ?_; simp (maxSteps := 4000000) only [go_sem, seval, List.append_eq, List.cons_append, List.nil_append, postC, watchC, sll, List.take_succ_cons, List.take_zero]; refine own_go (failing_c p (canon p.errs.length g)) [0, 1] rfl (by simp (maxSteps := 4000000) only [go_sem, seval, List.append_eq, List.cons_append, List.nil_append, postC, watchC, sll]) (by simp (maxSteps := 4000000) only [go_sem, seval, List.append_eq, List.cons_append, List.nil_append, postC, watchC, sll, Nat.lt_irrefl] <;> decide) rfl ?_; simp (maxSteps := 4000000) only [go_sem, seval, List.append_eq, List.cons_append, List.nil_append, postC, watchC, sll]; refine kt ?_)
  (repeat refine awp_seqK ?_)
  refine awp_block ?_
  refine AWP.le2 (s' := ⟨stT, stH p g 0, []⟩) (by simp only [stT, stH, hull, hLo, hHi, Option.isNone, postC, watchC]; simp (maxSteps := 4000000) only [go_sem, seval, List.append_eq, List.cons_append, List.nil_append, postC, watchC, sll]) ?_
  refine awp_rangeZ (gf := 81) (first := []) (caps := [.ptr 5 0 0]) (by simp only [stT]; simp (maxSteps := 4000000) only [go_sem, seval, List.append_eq, List.cons_append, List.nil_append, postC, watchC, sll]) 6 rfl ?_
  intro ca cb hca hcb
  refine ⟨.tup [], stH p g (p.errs.length + 1) ++ [some (.dfr true), some (.loop .ready none 0 stT #[11, 12] ca cb 6)], .ready, none, .normal, ?_, ?_, by simp, rfl, ?_⟩
  · simp only [stH, stT, postC, watchC]
    simp (maxSteps := 4000000) only [go_sem, seval, List.append_eq, List.cons_append, List.nil_append, postC, watchC, sll]
    (refine semF_of_awp (ys := []) (fun w args => Try.call81 ..) Try.func81 rfl (fun w0 m0 wz => ?_); simp only [Try.ntmps81, Try.results81, initT, junks, postC, watchC, sll, sl, List.toList_toArray, List.cons_append, List.nil_append, List.length_cons, List.length_nil, Nat.reduceAdd, Nat.reduceSub])
    (repeat' (first
 | refine awp_seqK ?_
 | refine kt ?_
 | refine And.intro ?_ ?_
 | ((first | refine awp_stp rfl ?_ | refine awp_draw (by kernel_rfl) (by kernel_rfl) ?_ | refine Imp.le2 ?_ | refine go_split (fun _h => ?_) (fun _h => ?_)) <;> try simp (maxSteps := 4000000) only [go_sem, seval, List.append_eq, List.cons_append, List.nil_append, postC, watchC, sll])
 | intro _h
 | refine awp_block ?_
 | refine awp_scope ?_
 | (show heapOK _ _ = true; kernel_rfl)
 | (show heapOK2 _ _ = true; kernel_rfl)
 | (omega)))
    refine awp_loopN (p.errs.length + 1) (fun i => ⟨mkT 33 [(0, .fn (.yield 7) [] []), (1, .ptr 5 0 0), (3, .int .i64 ((i : Int) - 1))], stH p g i ++ [some (.dfr true), some (.loop .ready none 0 stT #[11, 12] ca cb 6)], []⟩) (.le2 ?_) ?_
    · simp only [stH, stT, postC, watchC]; simp (maxSteps := 4000000) only [go_sem, seval, List.append_eq, List.cons_append, List.nil_append, postC, watchC, sll]
      all_goals rfl
    · intro i hi
      have hgi := canon_get (n := p.errs.length) (g := g) (j := (i : Int) - 1) (by omega)
      have hbd := hull_bd hg i
      cases hx : g ((i : Int) - 1) with
      | none =>
        simp only [stH, stT, postC, watchC]; simp (maxSteps := 4000000) only [go_sem, seval, List.append_eq, List.cons_append, List.nil_append, postC, watchC, sll]
        (repeat' (first
 | ((rw [mget_none ((hgi (by omega)).trans hx)]; simp (maxSteps := 4000000) only [go_sem, seval, List.append_eq, List.cons_append, List.nil_append, postC, watchC, sll]))
 | ((show zeroOK _ = true; rfl))
 | refine awp_seqK ?_
 | refine kt ?_
 | refine And.intro ?_ ?_
 | ((first | refine awp_stp rfl ?_ | refine awp_draw (by kernel_rfl) (by kernel_rfl) ?_ | refine Imp.le2 ?_ | refine go_split (fun _h => ?_) (fun _h => ?_)) <;> try simp (maxSteps := 4000000) only [go_sem, seval, List.append_eq, List.cons_append, List.nil_append, postC, watchC, sll])
 | intro _h
 | refine awp_block ?_
 | refine awp_scope ?_
 | (show heapOK _ _ = true; kernel_rfl)
 | (show heapOK2 _ _ = true; kernel_rfl)
 | (omega)))
        all_goals first
          | (simp only [hull, hx]; done)
          | (have e : i = p.errs.length + 1 := by omega
             subst e; rfl)
      | some x =>
        simp only [stH, stT, postC, watchC]; simp (maxSteps := 4000000) only [go_sem, seval, List.append_eq, List.cons_append, List.nil_append, postC, watchC, sll]
        (repeat' (first
 | ((rw [mget_some ((hgi (by omega)).trans hx)]; simp (maxSteps := 4000000) only [go_sem, seval, List.append_eq, List.cons_append, List.nil_append, postC, watchC, sll]))
 | ((show zeroOK _ = true; rfl))
 | ((refine awp_ownN 5 rfl ?_; simp (maxSteps := 4000000) only [go_sem, seval, List.append_eq, List.cons_append, List.nil_append, postC, watchC, sll, List.take_succ_cons, List.take_zero]; refine callH_yield true (stH p g (i + 1) ++ [some (.dfr true), some (.loop .ready none 0 stT #[11, 12] ca cb 6), some (.cells 121 1 0 [.int .i64 x.1, .int .i64 x.2])]) ?_ ?_ <;> simp only [stH, stT, postC, watchC] <;> (try simp (maxSteps := 4000000) only [go_sem, seval, List.append_eq, List.cons_append, List.nil_append, postC, watchC, sll])))
 | refine awp_seqK ?_
 | refine kt ?_
 | refine And.intro ?_ ?_
 | ((first | refine awp_stp rfl ?_ | refine awp_draw (by kernel_rfl) (by kernel_rfl) ?_ | refine Imp.le2 ?_ | refine go_split (fun _h => ?_) (fun _h => ?_)) <;> try simp (maxSteps := 4000000) only [go_sem, seval, List.append_eq, List.cons_append, List.nil_append, postC, watchC, sll])
 | intro _h
 | refine awp_block ?_
 | refine awp_scope ?_
 | (show heapOK _ _ = true; kernel_rfl)
 | (show heapOK2 _ _ = true; kernel_rfl)
 | (omega)))
        · refine semY_of_awpZ rfl rfl ?_
          intro B w0 l m w
          refine awp_code hca ?_
          (repeat' (first
 | refine awp_seqK ?_
 | refine kt ?_
 | refine And.intro ?_ ?_
 | ((first | refine awp_stp rfl ?_ | refine awp_draw (by kernel_rfl) (by kernel_rfl) ?_ | refine Imp.le2 ?_ | refine go_split (fun _h => ?_) (fun _h => ?_)) <;> try simp (maxSteps := 4000000) only [go_sem, seval, List.append_eq, List.cons_append, List.nil_append, postC, watchC, sll])
 | intro _h
 | refine awp_block ?_
 | refine awp_scope ?_
 | (show heapOK _ _ = true; kernel_rfl)
 | (show heapOK2 _ _ = true; kernel_rfl)
 | (omega)))
          refine awp_code hcb ?_
          simp only [hull, hx]
          generalize hull g i = s at *
          cases s
          · simp only [Option.isNone, Option.isSome, hLo, hHi, joinE] at *
            (repeat' (first
 | refine awp_seqK ?_
 | refine kt ?_
 | refine And.intro ?_ ?_
 | ((first | refine awp_stp rfl ?_ | refine awp_draw (by kernel_rfl) (by kernel_rfl) ?_ | refine Imp.le2 ?_ | refine callK_of (greatest_c _ _ _) ?_ | refine callK_of (least_c _ _ _) ?_ | refine go_split (fun _h => ?_) (fun _h => ?_)) <;> try simp (maxSteps := 4000000) only [go_sem, seval, List.append_eq, List.cons_append, List.nil_append, postC, watchC, sll])
 | intro _h
 | refine awp_block ?_
 | refine awp_scope ?_
 | (show heapOK _ _ = true; kernel_rfl)
 | (show heapOK2 _ _ = true; kernel_rfl)
 | (omega)))
            all_goals simp
          · simp only [Option.isNone, Option.isSome, hLo, hHi, joinE] at *
            (repeat' (first
 | refine awp_seqK ?_
 | refine kt ?_
 | refine And.intro ?_ ?_
 | ((first | refine awp_stp rfl ?_ | refine awp_draw (by kernel_rfl) (by kernel_rfl) ?_ | refine Imp.le2 ?_ | refine callK_of (greatest_c _ _ _) ?_ | refine callK_of (least_c _ _ _) ?_ | refine go_split (fun _h => ?_) (fun _h => ?_)) <;> try simp (maxSteps := 4000000) only [go_sem, seval, List.append_eq, List.cons_append, List.nil_append, postC, watchC, sll])
 | intro _h
 | refine awp_block ?_
 | refine awp_scope ?_
 | (show heapOK _ _ = true; kernel_rfl)
 | (show heapOK2 _ _ = true; kernel_rfl)
 | (omega)))
        all_goals
          (have e : i = p.errs.length + 1 := by omega
           subst e; rfl)
  · rfl
  · have hbd := hull_bd hg (p.errs.length + 1)
    have hlv := level_c p (hHi (hull g (p.errs.length + 1))) hp (by omega)
    simp only [postC, sl] at hlv
    simp only [stH, stT, postC, watchC]
    simp (maxSteps := 4000000) only [go_sem, seval, List.append_eq, List.cons_append, List.nil_append, postC, watchC, sll]
    (repeat' (first
 | refine awp_seqK ?_
 | refine kt ?_
 | refine And.intro ?_ ?_
 | ((first | refine awp_stp rfl ?_ | refine awp_draw (by kernel_rfl) (by kernel_rfl) ?_ | refine Imp.le2 ?_ | refine callK_of (hlv) ?_ | refine go_split (fun _h => ?_) (fun _h => ?_)) <;> try simp (maxSteps := 4000000) only [go_sem, seval, List.append_eq, List.cons_append, List.nil_append, postC, watchC, sll])
 | intro _h
 | refine awp_block ?_
 | refine awp_scope ?_
 | (show heapOK _ _ = true; kernel_rfl)
 | (show heapOK2 _ _ = true; kernel_rfl)
 | (omega)))
    all_goals (clear hlv hbd; cases hh : hull g (p.errs.length + 1) <;> simp_all)
end Al
end Go.Am

/- Contracts of the alarm functions: all rows of a post. -/
namespace Go.Am
namespace Al
open Go.RowKit Go.Proofs
attribute [local irreducible] AWP CallS Kt goK CallK stepK evOps SemF SemY
set_option maxRecDepth 4000
set_option linter.unusedSimpArgs false
set_option linter.unusedVariables false
set_option maxHeartbeats 1600000
theorem agLo_ge {errs row : List Int} {f : Int} : ∀ i, 0 ≤ agLo errs row f i
  | 0 => by simp [agLo]
  | i + 1 => by have := agLo_ge (errs := errs) (row := row) (f := f) i; simp only [agLo]; split <;> omega
theorem agHi_le {errs row : List Int} {f : Int} : ∀ i, agHi errs row f i ≤ 1000
  | 0 => by simp [agHi]
  | i + 1 => by have := agHi_le (errs := errs) (row := row) (f := f) i; simp only [agHi]; split <;> omega
theorem stepX_bd {p : Post} {row : List Int} {first : Bool} {f : Int} {x z : Int × Int} (h : stepX p row first f x = some z) : 0 ≤ z.1 ∧ z.1 ≤ z.2 ∧ z.2 ≤ 1000 := by
  have h3' : stepX p row first f x = (if agreedEnds p.errs row f = (1, 0) ∨ min (if first = true then x.2 else x.2 + p.gain) (agreedEnds p.errs row f).2 < max (if first = true then x.1 else x.1 - p.drop) (agreedEnds p.errs row f).1 then none
  else some (max (if first = true then x.1 else x.1 - p.drop) (agreedEnds p.errs row f).1, min (if first = true then x.2 else x.2 + p.gain) (agreedEnds p.errs row f).2)) := rfl
  rw [h3'] at h
  generalize (if first = true then x.2 else x.2 + p.gain) = b at *
  generalize (if first = true then x.1 else x.1 - p.drop) = a at *
  split at h
  · cases h
  · rename_i hc
    cases h
    simp only [not_or] at hc
    obtain ⟨h1, h2⟩ := hc
    have h3 : 0 ≤ (agreedEnds p.errs row f).1 ∧ (agreedEnds p.errs row f).2 ≤ 1000 := by
      unfold agreedEnds
      split
      · simp
      · exact ⟨agLo_ge _, agHi_le _⟩
    simp only
    omega
theorem stepG_ok {p : Post} {row : List Int} {first : Bool} {g : Int → Option (Int × Int)} : GOK (stepG p row first g) := by
  intro f z hz
  simp only [stepG, Option.bind_eq_some_iff] at hz
  obtain ⟨x, _, h⟩ := hz
  exact stepX_bd h
/-- What may be after so many rows. -/
def gAt (p : Post) (reads : List (List Int)) : Nat → Int → Option (Int × Int)
  | 0 => fun _ => some (0, 1000)
  | k + 1 => stepG p (reads.getD k []) (decide (k = 0)) (gAt p reads k)
theorem gAt_ok {p : Post} {reads : List (List Int)} : ∀ k, GOK (gAt p reads k)
  | 0 => fun f x h => by simp only [gAt, Option.some.injEq] at h; subst h; simp
  | k + 1 => stepG_ok
/-- What may be in an hour, and the state. -/
def stAt (p : Post) (reads : List (List Int)) (k : Nat) : Option (Int × Int) := hull (gAt p reads (k + 1)) (p.errs.length + 1)
def stRec (p : Post) (s : Option (Int × Int)) : Int × Int × Int := (hLo s, hHi s, levelOf p (hHi s))
def states (p : Post) (reads : List (List Int)) (k : Nat) : List (Int × Int × Int) := (List.range k).map fun j => stRec p (stAt p reads j)
theorem states_succ {p : Post} {reads : List (List Int)} {k : Nat} : states p reads (k + 1) = states p reads k ++ [stRec p (stAt p reads k)] := by simp [states, List.range_succ]
theorem states_length {p : Post} {reads : List (List Int)} {k : Nat} : (states p reads k).length = k := by simp [states]
def stC (s : Int × Int × Int) : List AV := [.int .i64 s.1, .int .i64 s.2.1, .int .u8 s.2.2]
theorem pl_st {l : List (Int × Int × Int)} : pureL (recs stC l) = True := eq_true (recs_pure fun s => by simp [pureL, stC, cellPure])
theorem lv_st {l : List (Int × Int × Int)} {p : Nat → Bool} : (recs stC l).all (live2 p) = true := recs_live fun s => by simp [pureL, stC, cellPure]
theorem len_st {l : List (Int × Int × Int)} : (recs stC l).length = l.length * 3 := recs_length fun _ => rfl
theorem rl_st {l : List (Int × Int × Int)} {σ : Nat → Nat} : renL σ (recs stC l) = recs stC l := rl_recs fun a => by simp [stC, renL, ren]
attribute [go_sem] pl_st lv_st len_st rl_st states_length
structure ReadsOK (p : Post) (reads : List (List Int)) : Prop where
  len : reads.length ≤ 60
  rows : ∀ i, i < reads.length → RowOK p (reads.getD i [])
def ruH (p : Post) (reads : List (List Int)) (k : Nat) : List (Option ABlk) :=
  [none, none, some (.map (mpC (canon p.errs.length (gAt p reads k)))), some (.cells 119 1 0 (watchC p 2))]
theorem run_ok (p : Post) (reads : List (List Int)) (hp : PostOK p) (hr : ReadsOK p reads) (hall : ∀ j, j < reads.length → (stAt p reads j).isSome = true) : SemF Try.prog 26 [.agg (postC p), sll reads] []
    (.tup [.osl 4 reads.length 0 reads.length, .ptr 3 0 0, .int .i64 (-1)]) (ruH p reads reads.length ++ [some (.cells 59 3 reads.length (recs stC (states p reads reads.length)))]) := by
  obtain ⟨hl1, hl2⟩ := hp.len
  have hl3 := hr.len
  have hbg := begin_c p (by omega)
  simp only [postC, sl, watchC] at hbg
  (refine semF_of_awp (ys := [.osl 4 reads.length 0 reads.length, .ptr 3 0 0, .int .i64 (-1)]) (fun w args => Try.call26 ..) Try.func26 rfl (fun w0 m0 wz => ?_); simp only [Try.ntmps26, Try.results26, initT, junks, postC, watchC, sll, sl, List.toList_toArray, List.cons_append, List.nil_append, List.length_cons, List.length_nil, Nat.reduceAdd, Nat.reduceSub])
  ((repeat refine awp_seqK ?_); refine awp_region ?_; simp (maxSteps := 4000000) only [go_sem, seval, List.append_eq, List.cons_append, List.nil_append, postC, watchC, sll]; refine kt ?_)
  ((repeat refine awp_seqK ?_); refine awp_ownN 1 rfl ?_; simp (maxSteps := 4000000) only [go_sem, seval, List.append_eq, List.cons_append, List.nil_append, postC, watchC, sll, List.take_succ_cons, List.take_zero]; refine own_go (hbg) [] rfl (by simp (maxSteps := 4000000) only [go_sem, seval, List.append_eq, List.cons_append, List.nil_append, postC, watchC, sll]) (by simp (maxSteps := 4000000) only [go_sem, seval, List.append_eq, List.cons_append, List.nil_append, postC, watchC, sll, Nat.lt_irrefl] <;> decide) rfl ?_; simp (maxSteps := 4000000) only [go_sem, seval, List.append_eq, List.cons_append, List.nil_append, postC, watchC, sll]; refine kt ?_)
  (repeat' (first
 | refine awp_seqK ?_
 | refine kt ?_
 | refine And.intro ?_ ?_
 | ((first | refine awp_stp rfl ?_ | refine awp_draw (by kernel_rfl) (by kernel_rfl) ?_ | refine Imp.le2 ?_ | refine go_split (fun _h => ?_) (fun _h => ?_)) <;> try simp (maxSteps := 4000000) only [go_sem, seval, List.append_eq, List.cons_append, List.nil_append, postC, watchC, sll])
 | intro _h
 | refine awp_block ?_
 | refine awp_scope ?_
 | (show heapOK _ _ = true; kernel_rfl)
 | (show heapOK2 _ _ = true; kernel_rfl)
 | (omega)))
  (refine awp_adT 4 59 3 rfl ?_; simp only [adT, lset, hset, List.length_cons, List.length_nil, Nat.reduceAdd])
  refine awp_loopN reads.length (fun k => ⟨mkT 41 [(4, .osl 4 k 0 k), (5, .ptr 3 0 0), (13, sll reads), (14, .int .i64 reads.length), (15, .int .i64 k)], ruH p reads k ++ [some (.cells 59 3 k (recs stC (states p reads k)))], []⟩) (.le2 ?_) ?_
  · simp only [ruH, postC, watchC]; simp (maxSteps := 4000000) only [go_sem, seval, List.append_eq, List.cons_append, List.nil_append, postC, watchC, sll]
    all_goals first | rfl | exact ⟨rfl, rfl⟩ | all_goals first | rfl | exact ⟨rfl, rfl⟩ | exact ⟨rfl, rfl, rfl⟩
  · intro k hk
    have hnx := fun h : k < reads.length => next_c p (gAt p reads k) (reads.getD k []) (decide (k = 0)) hp (hr.rows k h) (gAt_ok k)
    have hg1 : stepG p (reads.getD k []) (decide (k = 0)) (gAt p reads k) = gAt p reads (k + 1) := rfl
    have hst := state_c p (gAt p reads (k + 1)) hp (gAt_ok _)
    rw [hg1] at hnx
    have hal := hall k
    have hsu := states_succ (p := p) (reads := reads) (k := k)
    simp only [sl, postC, watchC, stAt, stRec] at hnx hst hal hsu
    generalize hh : hull (gAt p reads (k + 1)) (p.errs.length + 1) = s at *
    simp only [ruH, postC, watchC]; simp (maxSteps := 4000000) only [go_sem, seval, List.append_eq, List.cons_append, List.nil_append, postC, watchC, sll]
    by_cases h0 : k = 0
    · have e0 : ((k : Int) = 0) = True := eq_true (by omega)
      have e1 : decide (k = 0) = true := by simp [h0]
      rw [e1] at hnx
      (repeat' (first
 | (refine awp_ownN 4 rfl ?_; simp (maxSteps := 4000000) only [go_sem, seval, List.append_eq, List.cons_append, List.nil_append, postC, watchC, sll, List.take_succ_cons, List.take_zero, e0, decide_true]; (repeat refine And.intro (by omega) ?_); refine own_go (hnx (by omega)) [3, 2] rfl ?_ ?_ rfl ?_ <;> try simp (maxSteps := 4000000) only [go_sem, seval, List.append_eq, List.cons_append, List.nil_append, postC, watchC, sll, Nat.lt_irrefl, e0, decide_true] <;> try decide)
 | (refine awp_ownN 1 rfl ?_; simp (maxSteps := 4000000) only [go_sem, seval, List.append_eq, List.cons_append, List.nil_append, postC, watchC, sll, List.take_succ_cons, List.take_zero, e0, decide_true]; (repeat refine And.intro (by omega) ?_); refine own_go (hst) [3, 2] rfl ?_ ?_ rfl ?_ <;> try simp (maxSteps := 4000000) only [go_sem, seval, List.append_eq, List.cons_append, List.nil_append, postC, watchC, sll, Nat.lt_irrefl, e0, decide_true] <;> try decide)
 | refine awp_seqK ?_
 | refine kt ?_
 | refine And.intro ?_ ?_
 | ((first | refine awp_stp rfl ?_ | refine awp_draw (by kernel_rfl) (by kernel_rfl) ?_ | refine Imp.le2 ?_ | refine go_split (fun _h => ?_) (fun _h => ?_)) <;> try simp (maxSteps := 4000000) only [go_sem, seval, List.append_eq, List.cons_append, List.nil_append, postC, watchC, sll, e0, decide_true])
 | intro _h
 | refine awp_block ?_
 | refine awp_scope ?_
 | (show heapOK _ _ = true; kernel_rfl)
 | (show heapOK2 _ _ = true; kernel_rfl)
 | (omega)))
      all_goals first
        | (rw [hsu, recs_snoc]; rfl)
        | (have e : k = reads.length := by omega
           subst e; rfl)
        | (exfalso; have h1 := hal (by omega); simp only [Option.isSome] at *; simp_all; done)
    · have e0 : ((k : Int) = 0) = False := eq_false (by omega)
      have e1 : decide (k = 0) = false := by simp [h0]
      rw [e1] at hnx
      (repeat' (first
 | (refine awp_ownN 4 rfl ?_; simp (maxSteps := 4000000) only [go_sem, seval, List.append_eq, List.cons_append, List.nil_append, postC, watchC, sll, List.take_succ_cons, List.take_zero, e0, decide_false]; (repeat refine And.intro (by omega) ?_); refine own_go (hnx (by omega)) [3, 2] rfl ?_ ?_ rfl ?_ <;> try simp (maxSteps := 4000000) only [go_sem, seval, List.append_eq, List.cons_append, List.nil_append, postC, watchC, sll, Nat.lt_irrefl, e0, decide_false] <;> try decide)
 | (refine awp_ownN 1 rfl ?_; simp (maxSteps := 4000000) only [go_sem, seval, List.append_eq, List.cons_append, List.nil_append, postC, watchC, sll, List.take_succ_cons, List.take_zero, e0, decide_false]; (repeat refine And.intro (by omega) ?_); refine own_go (hst) [3, 2] rfl ?_ ?_ rfl ?_ <;> try simp (maxSteps := 4000000) only [go_sem, seval, List.append_eq, List.cons_append, List.nil_append, postC, watchC, sll, Nat.lt_irrefl, e0, decide_false] <;> try decide)
 | refine awp_seqK ?_
 | refine kt ?_
 | refine And.intro ?_ ?_
 | ((first | refine awp_stp rfl ?_ | refine awp_draw (by kernel_rfl) (by kernel_rfl) ?_ | refine Imp.le2 ?_ | refine go_split (fun _h => ?_) (fun _h => ?_)) <;> try simp (maxSteps := 4000000) only [go_sem, seval, List.append_eq, List.cons_append, List.nil_append, postC, watchC, sll, e0, decide_false])
 | intro _h
 | refine awp_block ?_
 | refine awp_scope ?_
 | (show heapOK _ _ = true; kernel_rfl)
 | (show heapOK2 _ _ = true; kernel_rfl)
 | (omega)))
      all_goals first
        | (rw [hsu, recs_snoc]; rfl)
        | (have e : k = reads.length := by omega
           subst e; rfl)
        | (exfalso; have h1 := hal (by omega); simp only [Option.isSome] at *; simp_all; done)
theorem run_broken (p : Post) (reads : List (List Int)) (h : Nat) (hp : PostOK p) (hr : ReadsOK p reads) (hh0 : h < reads.length) (hno : stAt p reads h = none) (hall : ∀ j, j < h → (stAt p reads j).isSome = true) : SemF Try.prog 26 [.agg (postC p), sll reads] []
    (.tup [.nils, .ptr 3 0 0, .int .i64 h]) (ruH p reads (h + 1)) := by
  obtain ⟨hl1, hl2⟩ := hp.len
  have hl3 := hr.len
  have hbg := begin_c p (by omega)
  simp only [postC, sl, watchC] at hbg
  (refine semF_of_awp (ys := [.nils, .ptr 3 0 0, .int .i64 h]) (fun w args => Try.call26 ..) Try.func26 rfl (fun w0 m0 wz => ?_); simp only [Try.ntmps26, Try.results26, initT, junks, postC, watchC, sll, sl, List.toList_toArray, List.cons_append, List.nil_append, List.length_cons, List.length_nil, Nat.reduceAdd, Nat.reduceSub])
  ((repeat refine awp_seqK ?_); refine awp_region ?_; simp (maxSteps := 4000000) only [go_sem, seval, List.append_eq, List.cons_append, List.nil_append, postC, watchC, sll]; refine kt ?_)
  ((repeat refine awp_seqK ?_); refine awp_ownN 1 rfl ?_; simp (maxSteps := 4000000) only [go_sem, seval, List.append_eq, List.cons_append, List.nil_append, postC, watchC, sll, List.take_succ_cons, List.take_zero]; refine own_go (hbg) [] rfl (by simp (maxSteps := 4000000) only [go_sem, seval, List.append_eq, List.cons_append, List.nil_append, postC, watchC, sll]) (by simp (maxSteps := 4000000) only [go_sem, seval, List.append_eq, List.cons_append, List.nil_append, postC, watchC, sll, Nat.lt_irrefl] <;> decide) rfl ?_; simp (maxSteps := 4000000) only [go_sem, seval, List.append_eq, List.cons_append, List.nil_append, postC, watchC, sll]; refine kt ?_)
  (repeat' (first
 | refine awp_seqK ?_
 | refine kt ?_
 | refine And.intro ?_ ?_
 | ((first | refine awp_stp rfl ?_ | refine awp_draw (by kernel_rfl) (by kernel_rfl) ?_ | refine Imp.le2 ?_ | refine go_split (fun _h => ?_) (fun _h => ?_)) <;> try simp (maxSteps := 4000000) only [go_sem, seval, List.append_eq, List.cons_append, List.nil_append, postC, watchC, sll])
 | intro _h
 | refine awp_block ?_
 | refine awp_scope ?_
 | (show heapOK _ _ = true; kernel_rfl)
 | (show heapOK2 _ _ = true; kernel_rfl)
 | (omega)))
  (refine awp_adT 4 59 3 rfl ?_; simp only [adT, lset, hset, List.length_cons, List.length_nil, Nat.reduceAdd])
  refine awp_loopN h (fun k => ⟨mkT 41 [(4, .osl 4 k 0 k), (5, .ptr 3 0 0), (13, sll reads), (14, .int .i64 reads.length), (15, .int .i64 k)], ruH p reads k ++ [some (.cells 59 3 k (recs stC (states p reads k)))], []⟩) (.le2 ?_) ?_
  · simp only [ruH, postC, watchC]; simp (maxSteps := 4000000) only [go_sem, seval, List.append_eq, List.cons_append, List.nil_append, postC, watchC, sll]
    all_goals first | rfl | exact ⟨rfl, rfl⟩ | all_goals first | rfl | exact ⟨rfl, rfl⟩ | exact ⟨rfl, rfl, rfl⟩
  · intro k hk
    have hnx := next_c p (gAt p reads k) (reads.getD k []) (decide (k = 0)) hp (hr.rows k (by omega)) (gAt_ok k)
    have hg1 : stepG p (reads.getD k []) (decide (k = 0)) (gAt p reads k) = gAt p reads (k + 1) := rfl
    have hst := state_c p (gAt p reads (k + 1)) hp (gAt_ok _)
    rw [hg1] at hnx
    have hal := hall k
    have hno' : k = h → hull (gAt p reads (k + 1)) (p.errs.length + 1) = none := fun e => by rw [e]; exact hno
    have hsu := states_succ (p := p) (reads := reads) (k := k)
    simp only [sl, postC, watchC, stAt, stRec] at hnx hst hal hsu
    generalize hh : hull (gAt p reads (k + 1)) (p.errs.length + 1) = s at *
    simp only [ruH, postC, watchC]; simp (maxSteps := 4000000) only [go_sem, seval, List.append_eq, List.cons_append, List.nil_append, postC, watchC, sll]
    by_cases h0 : k = 0
    · have e0 : ((k : Int) = 0) = True := eq_true (by omega)
      have e1 : decide (k = 0) = true := by simp [h0]
      rw [e1] at hnx
      (repeat' (first
 | (refine awp_ownN 4 rfl ?_; simp (maxSteps := 4000000) only [go_sem, seval, List.append_eq, List.cons_append, List.nil_append, postC, watchC, sll, List.take_succ_cons, List.take_zero, e0, decide_true]; (repeat refine And.intro (by omega) ?_); refine own_go (hnx) [3, 2] rfl ?_ ?_ rfl ?_ <;> try simp (maxSteps := 4000000) only [go_sem, seval, List.append_eq, List.cons_append, List.nil_append, postC, watchC, sll, Nat.lt_irrefl, e0, decide_true] <;> try decide)
 | (refine awp_ownN 1 rfl ?_; simp (maxSteps := 4000000) only [go_sem, seval, List.append_eq, List.cons_append, List.nil_append, postC, watchC, sll, List.take_succ_cons, List.take_zero, e0, decide_true]; (repeat refine And.intro (by omega) ?_); refine own_go (hst) [3, 2] rfl ?_ ?_ rfl ?_ <;> try simp (maxSteps := 4000000) only [go_sem, seval, List.append_eq, List.cons_append, List.nil_append, postC, watchC, sll, Nat.lt_irrefl, e0, decide_true] <;> try decide)
 | refine awp_seqK ?_
 | refine kt ?_
 | refine And.intro ?_ ?_
 | ((first | refine awp_stp rfl ?_ | refine awp_draw (by kernel_rfl) (by kernel_rfl) ?_ | refine Imp.le2 ?_ | refine go_split (fun _h => ?_) (fun _h => ?_)) <;> try simp (maxSteps := 4000000) only [go_sem, seval, List.append_eq, List.cons_append, List.nil_append, postC, watchC, sll, e0, decide_true])
 | intro _h
 | refine awp_block ?_
 | refine awp_scope ?_
 | (show heapOK _ _ = true; kernel_rfl)
 | (show heapOK2 _ _ = true; kernel_rfl)
 | (omega)))
      all_goals first
        | (rw [hsu, recs_snoc]; rfl)
        | omega
        | (rcases Nat.lt_or_eq_of_le hk with h1 | rfl
           · have h2 := hal h1
             simp_all
           · first | rfl | (simp_all; done))
        | (rcases Nat.lt_or_eq_of_le hk with h1 | h1
           · exact h1
           · exfalso; have h2 := hno' h1; rw [h2] at *; simp_all)
        | (rcases Nat.lt_or_eq_of_le hk with h1 | h1
           · exfalso; have h2 := hal h1; simp_all
           · subst h1; rfl)
    · have e0 : ((k : Int) = 0) = False := eq_false (by omega)
      have e1 : decide (k = 0) = false := by simp [h0]
      rw [e1] at hnx
      (repeat' (first
 | (refine awp_ownN 4 rfl ?_; simp (maxSteps := 4000000) only [go_sem, seval, List.append_eq, List.cons_append, List.nil_append, postC, watchC, sll, List.take_succ_cons, List.take_zero, e0, decide_false]; (repeat refine And.intro (by omega) ?_); refine own_go (hnx) [3, 2] rfl ?_ ?_ rfl ?_ <;> try simp (maxSteps := 4000000) only [go_sem, seval, List.append_eq, List.cons_append, List.nil_append, postC, watchC, sll, Nat.lt_irrefl, e0, decide_false] <;> try decide)
 | (refine awp_ownN 1 rfl ?_; simp (maxSteps := 4000000) only [go_sem, seval, List.append_eq, List.cons_append, List.nil_append, postC, watchC, sll, List.take_succ_cons, List.take_zero, e0, decide_false]; (repeat refine And.intro (by omega) ?_); refine own_go (hst) [3, 2] rfl ?_ ?_ rfl ?_ <;> try simp (maxSteps := 4000000) only [go_sem, seval, List.append_eq, List.cons_append, List.nil_append, postC, watchC, sll, Nat.lt_irrefl, e0, decide_false] <;> try decide)
 | refine awp_seqK ?_
 | refine kt ?_
 | refine And.intro ?_ ?_
 | ((first | refine awp_stp rfl ?_ | refine awp_draw (by kernel_rfl) (by kernel_rfl) ?_ | refine Imp.le2 ?_ | refine go_split (fun _h => ?_) (fun _h => ?_)) <;> try simp (maxSteps := 4000000) only [go_sem, seval, List.append_eq, List.cons_append, List.nil_append, postC, watchC, sll, e0, decide_false])
 | intro _h
 | refine awp_block ?_
 | refine awp_scope ?_
 | (show heapOK _ _ = true; kernel_rfl)
 | (show heapOK2 _ _ = true; kernel_rfl)
 | (omega)))
      all_goals first
        | (rw [hsu, recs_snoc]; rfl)
        | omega
        | (rcases Nat.lt_or_eq_of_le hk with h1 | rfl
           · have h2 := hal h1
             simp_all
           · first | rfl | (simp_all; done))
        | (rcases Nat.lt_or_eq_of_le hk with h1 | h1
           · exact h1
           · exfalso; have h2 := hno' h1; rw [h2] at *; simp_all)
        | (rcases Nat.lt_or_eq_of_le hk with h1 | h1
           · exfalso; have h2 := hal h1; simp_all
           · subst h1; rfl)
end Al
end Go.Am

/- Contracts of the alarm functions: levels, breaks, those that may have failed. -/
namespace Go.Am
namespace Al
open Go.RowKit Go.Proofs
attribute [local irreducible] AWP CallS Kt goK CallK stepK evOps SemF SemY
set_option maxRecDepth 4000
set_option linter.unusedSimpArgs false
set_option linter.unusedVariables false
set_option maxHeartbeats 1600000
theorem all_getD {l : List Int} {q : Int → Bool} (h : l.all q = true) (i : Nat) (hi : i < l.length) : q (l.getD i 0) = true := by
  rw [List.all_eq_true] at h
  have := h _ (List.getElem_mem hi)
  rwa [show l.getD i 0 = l[i] by simp [List.getD_eq_getElem?_getD, hi]]
theorem postB_ok {p : Post} (h : postB p = true) : PostOK p := by
  obtain ⟨h1, h2, h3, h4, h5, h6, h7⟩ := of_decide_eq_true h
  exact ⟨h1, fun i hi => of_decide_eq_true (all_getD h2 i hi), h3, h4, h5, h6, h7⟩
theorem faultP_zero {p : Post} {reads : List (List Int)} (h : faultP p reads = 0) : PostOK p ∧ ReadsOK p reads := by
  unfold faultP at h
  split at h
  · omega
  · rename_i h1
    split at h
    · omega
    · split at h
      · rename_i h2 h3
        refine ⟨postB_ok (by simpa using h1), by omega, fun i hi => ?_⟩
        rw [List.all_eq_true] at h3
        have := h3 _ (List.getElem_mem hi)
        rw [show reads.getD i [] = reads[i] by simp [List.getD_eq_getElem?_getD, hi]]
        simp only [rowB, Bool.and_eq_true, decide_eq_true_eq] at this
        exact ⟨this.1, fun j hj => of_decide_eq_true (all_getD this.2 j hj)⟩
      · omega
theorem faultP_cases (p : Post) (reads : List (List Int)) : faultP p reads = 0 ∨ faultP p reads = 1 ∨ faultP p reads = 2 ∨ faultP p reads = 3 := by
  unfold faultP
  split
  · simp
  · split
    · simp
    · split <;> simp
/-- The hour in which a post breaks. -/
def brk (p : Post) (reads : List (List Int)) : Option Nat := (List.range reads.length).find? fun k => (stAt p reads k).isNone
theorem brk_none {p : Post} {reads : List (List Int)} (h : brk p reads = none) : ∀ j, j < reads.length → (stAt p reads j).isSome = true := by
  intro j hj
  unfold brk at h
  rw [List.find?_eq_none] at h
  have := h j (by simpa using hj)
  cases hs : stAt p reads j with
  | none => simp [hs] at this
  | some x => rfl
theorem brk_some {p : Post} {reads : List (List Int)} {k : Nat} (h : brk p reads = some k) : k < reads.length ∧ stAt p reads k = none ∧ ∀ j, j < k → (stAt p reads j).isSome = true := by
  unfold brk at h
  rw [List.find?_range_eq_some] at h
  obtain ⟨h1, h2, h3⟩ := h
  refine ⟨by simpa using h2, by simpa using h1, fun j hj => ?_⟩
  have := h3 j hj
  cases hs : stAt p reads j with
  | none => simp [hs] at this
  | some x => rfl
def slSt (l : List (Int × Int × Int)) : AV := .psl false l.length (recs stC l)
/-- What Levels, Breaks, Failed hand back. -/
def levelsL (p : Post) (reads : List (List Int)) : List (Int × Int × Int) := if faultP p reads = 0 then (match brk p reads with | none => states p reads reads.length | some _ => []) else []
def levelsE (p : Post) (reads : List (List Int)) : Int := if faultP p reads = 0 then (match brk p reads with | none => 0 | some _ => 9) else faultP p reads
structure InB (p : Post) (reads : List (List Int)) : Prop where
  e : p.errs.length ≤ 9223372036854775807
  n : reads.length ≤ 9223372036854775807
  rows : ∀ i, i < reads.length → (reads.getD i []).length ≤ 9223372036854775807
theorem levels_c (p : Post) (reads : List (List Int)) (hb : InB p reads) : CallS Try.prog 13 [.agg (postC p), sll reads] (.tup [slSt (levelsL p reads), .int .i64 (levelsE p reads)]) := by
  have hch := check_c p reads hb.e hb.n hb.rows
  have hfc := faultP_cases p reads
  unfold levelsL levelsE slSt
  by_cases hf : faultP p reads = 0
  · rw [if_pos hf, if_pos hf]
    obtain ⟨hp, hr⟩ := faultP_zero hf
    rw [hf] at hch
    cases hbk : brk p reads with
    | none =>
      have hru := run_ok p reads hp hr (brk_none hbk)
      have hlen := states_length (p := p) (reads := reads) (k := reads.length)
      simp only [ruH, postC, sl, watchC, sll] at hru hch
      generalize states p reads reads.length = L at *
      (refine callS_of_awp (fun w args => Try.call13 ..) Try.func13 rfl (fun w0 m0 wz => ?_); simp only [Try.ntmps13, Try.results13, initT, junks, postC, watchC, sll, sl, List.toList_toArray, List.cons_append, List.nil_append, List.length_cons, List.length_nil, Nat.reduceAdd, Nat.reduceSub])
      (repeat' (first
 | (refine awp_ownN 2 rfl ?_; simp (maxSteps := 4000000) only [go_sem, seval, List.append_eq, List.cons_append, List.nil_append, postC, watchC, sll, List.take_succ_cons, List.take_zero]; (repeat refine And.intro (by omega) ?_); refine own_go (hru) [] rfl ?_ ?_ rfl ?_ <;> try simp (maxSteps := 4000000) only [go_sem, seval, List.append_eq, List.cons_append, List.nil_append, postC, watchC, sll, Nat.lt_irrefl] <;> try decide)
 | refine awp_seqK ?_
 | refine kt ?_
 | refine And.intro ?_ ?_
 | ((first | refine awp_stp rfl ?_ | refine awp_draw (by kernel_rfl) (by kernel_rfl) ?_ | refine Imp.le2 ?_ | refine callK_of (hch) ?_ | refine go_split (fun _h => ?_) (fun _h => ?_)) <;> try simp (maxSteps := 4000000) only [go_sem, seval, List.append_eq, List.cons_append, List.nil_append, postC, watchC, sll])
 | intro _h
 | refine awp_block ?_
 | refine awp_scope ?_
 | (show heapOK _ _ = true; kernel_rfl)
 | (show heapOK2 _ _ = true; kernel_rfl)
 | (omega)))
      all_goals (simp only [recs_nil]; omega)
    | some k =>
      obtain ⟨b1, b2, b3⟩ := brk_some hbk
      have hru := run_broken p reads k hp hr b1 b2 b3
      simp only [ruH, postC, sl, watchC, sll] at hru hch
      (refine callS_of_awp (fun w args => Try.call13 ..) Try.func13 rfl (fun w0 m0 wz => ?_); simp only [Try.ntmps13, Try.results13, initT, junks, postC, watchC, sll, sl, List.toList_toArray, List.cons_append, List.nil_append, List.length_cons, List.length_nil, Nat.reduceAdd, Nat.reduceSub])
      (repeat' (first
 | (refine awp_ownN 2 rfl ?_; simp (maxSteps := 4000000) only [go_sem, seval, List.append_eq, List.cons_append, List.nil_append, postC, watchC, sll, List.take_succ_cons, List.take_zero]; (repeat refine And.intro (by omega) ?_); refine own_go (hru) [] rfl ?_ ?_ rfl ?_ <;> try simp (maxSteps := 4000000) only [go_sem, seval, List.append_eq, List.cons_append, List.nil_append, postC, watchC, sll, Nat.lt_irrefl] <;> try decide)
 | refine awp_seqK ?_
 | refine kt ?_
 | refine And.intro ?_ ?_
 | ((first | refine awp_stp rfl ?_ | refine awp_draw (by kernel_rfl) (by kernel_rfl) ?_ | refine Imp.le2 ?_ | refine callK_of (hch) ?_ | refine go_split (fun _h => ?_) (fun _h => ?_)) <;> try simp (maxSteps := 4000000) only [go_sem, seval, List.append_eq, List.cons_append, List.nil_append, postC, watchC, sll])
 | intro _h
 | refine awp_block ?_
 | refine awp_scope ?_
 | (show heapOK _ _ = true; kernel_rfl)
 | (show heapOK2 _ _ = true; kernel_rfl)
 | (omega)))
      all_goals rfl
  · rw [if_neg hf, if_neg hf]
    simp only [ruH, postC, sl, watchC, sll] at hch
    generalize faultP p reads = e at *
    (refine callS_of_awp (fun w args => Try.call13 ..) Try.func13 rfl (fun w0 m0 wz => ?_); simp only [Try.ntmps13, Try.results13, initT, junks, postC, watchC, sll, sl, List.toList_toArray, List.cons_append, List.nil_append, List.length_cons, List.length_nil, Nat.reduceAdd, Nat.reduceSub])
    (repeat' (first
 | refine awp_seqK ?_
 | refine kt ?_
 | refine And.intro ?_ ?_
 | ((first | refine awp_stp rfl ?_ | refine awp_draw (by kernel_rfl) (by kernel_rfl) ?_ | refine Imp.le2 ?_ | refine callK_of (hch) ?_ | refine go_split (fun _h => ?_) (fun _h => ?_)) <;> try simp (maxSteps := 4000000) only [go_sem, seval, List.append_eq, List.cons_append, List.nil_append, postC, watchC, sll])
 | intro _h
 | refine awp_block ?_
 | refine awp_scope ?_
 | (show heapOK _ _ = true; kernel_rfl)
 | (show heapOK2 _ _ = true; kernel_rfl)
 | (omega)))
    all_goals rfl
end Al
end Go.Am

/- Contracts of the alarm functions: those that may have failed. -/
namespace Go.Am
namespace Al
open Go.RowKit Go.Proofs
attribute [local irreducible] AWP CallS Kt goK CallK stepK evOps SemF SemY
set_option maxRecDepth 4000
set_option linter.unusedSimpArgs false
set_option linter.unusedVariables false
set_option maxHeartbeats 1600000
/-- The gauges that may have failed. -/
def flist (g : Int → Option (Int × Int)) : Nat → List Int
  | 0 => []
  | i + 1 => match g ((i : Int) - 1) with | none => flist g i | some _ => flist g i ++ [(i : Int) - 1]
theorem flist_le {g : Int → Option (Int × Int)} : ∀ i, (flist g i).length ≤ i
  | 0 => by simp [flist]
  | i + 1 => by
    have := flist_le (g := g) i
    simp only [flist]
    split <;> simp <;> omega
def failedL (p : Post) (reads : List (List Int)) : List Int := if faultP p reads = 0 then (match brk p reads with | none => flist (gAt p reads reads.length) (p.errs.length + 1) | some _ => []) else []
end Al
end Go.Am

/- Contracts of the alarm functions: whether speeds are a truth. -/
namespace Go.Am
namespace Al
open Go.RowKit Go.Proofs
attribute [local irreducible] AWP CallS Kt goK CallK stepK evOps SemF SemY
set_option maxRecDepth 4000
set_option linter.unusedSimpArgs false
set_option linter.unusedVariables false
set_option maxHeartbeats 1600000
/-- One hour of a truth. -/
def okT (p : Post) (reads : List (List Int)) (f : Int) (sp : List Int) (h : Nat) : Prop :=
  ((agreedEnds p.errs (reads.getD h []) f).1 ≤ sp.getD h 0 ∧ sp.getD h 0 ≤ (agreedEnds p.errs (reads.getD h []) f).2) ∧ (h = 0 ∨ (-p.drop ≤ sp.getD h 0 - sp.getD (h - 1) 0 ∧ sp.getD h 0 - sp.getD (h - 1) 0 ≤ p.gain))
instance {p : Post} {reads : List (List Int)} {f : Int} {sp : List Int} {h : Nat} : Decidable (okT p reads f sp h) := by unfold okT; exact inferInstance
theorem okT_iff {p : Post} {reads : List (List Int)} {f : Int} {sp : List Int} {h : Nat} : okT p reads f sp h ↔
  (((agreedEnds p.errs (reads.getD h []) f).1 ≤ sp.getD h 0 ∧ sp.getD h 0 ≤ (agreedEnds p.errs (reads.getD h []) f).2) ∧ (h = 0 ∨ (-p.drop ≤ sp.getD h 0 - sp.getD (h - 1) 0 ∧ sp.getD h 0 - sp.getD (h - 1) 0 ≤ p.gain))) := Iff.rfl
def proveB (p : Post) (reads : List (List Int)) (f : Int) (sp : List Int) : Bool :=
  decide (faultP p reads = 0 ∧ sp.length = reads.length ∧ (-1 ≤ f ∧ f ≤ (p.errs.length : Int) - 1) ∧ ∀ h, h < sp.length → okT p reads f sp h)
theorem agreed_bd {errs row : List Int} {f : Int} : 0 ≤ (agreedEnds errs row f).1 ∧ (agreedEnds errs row f).2 ≤ 1000 := by
  unfold agreedEnds
  split
  · simp
  · exact ⟨agLo_ge _, agHi_le _⟩
theorem okT_bd {p : Post} {reads : List (List Int)} {f : Int} {sp : List Int} {h : Nat} (k : okT p reads f sp h) : 0 ≤ sp.getD h 0 ∧ sp.getD h 0 ≤ 1000 := by
  have := agreed_bd (errs := p.errs) (row := reads.getD h []) (f := f)
  have := k.1
  omega
end Al
end Go.Am

/- Lists that are told by a function; lists of bools; counts. What may be, by the reference's words. -/
namespace Go.Am
namespace Al
open Go.RowKit Go.Proofs
set_option linter.unusedSimpArgs false
set_option linter.unusedVariables false
/-- A list of n elements, told by a function. -/
def tab {α : Type} (n : Nat) (f : Nat → α) : List α := (List.range n).map f
section
variable {α : Type} {n : Nat} {f g : Nat → α}
theorem tab_length : (tab n f).length = n := by simp [tab]
theorem tab_getD {j : Nat} {d : α} (h : j < n) : (tab n f).getD j d = f j := by simp [tab, List.getD_eq_getElem?_getD, h]
end
attribute [go_sem] tab_length
/-- How many of the first ones are true. -/
def cnt (f : Nat → Bool) : Nat → Int
  | 0 => 0
  | i + 1 => if f i = true then cnt f i + 1 else cnt f i
theorem cnt_lt {f : Nat → Bool} {a : Nat} : ∀ {b : Nat}, a ≤ b → (cnt f a ≤ cnt f b ∧ (cnt f a < cnt f b ↔ ∃ u, a ≤ u ∧ u < b ∧ f u = true))
  | 0, h => by
    have : a = 0 := by omega
    subst this
    refine ⟨by omega, ⟨fun h => by omega, fun ⟨u, _, h, _⟩ => by omega⟩⟩
  | b + 1, h => by
    rcases Nat.lt_or_eq_of_le h with h1 | h1
    · obtain ⟨k1, k2⟩ := cnt_lt (f := f) (a := a) (b := b) (by omega)
      by_cases hf : f b = true
      · have e : cnt f (b + 1) = cnt f b + 1 := by simp [cnt, hf]
        rw [e]
        exact ⟨by omega, ⟨fun _ => ⟨b, by omega, by omega, hf⟩, fun _ => by omega⟩⟩
      · have e : cnt f (b + 1) = cnt f b := by simp [cnt, hf]
        rw [e]
        refine ⟨k1, k2.trans ⟨fun ⟨u, x, y, z⟩ => ⟨u, x, by omega, z⟩, fun ⟨u, x, y, z⟩ => ⟨u, x, ?_, z⟩⟩⟩
        rcases Nat.lt_or_eq_of_le (Nat.le_of_lt_succ y) with h2 | h2
        · exact h2
        · subst h2; exact absurd z hf
    · subst h1
      refine ⟨by omega, ⟨fun h => by omega, fun ⟨u, x, y, _⟩ => by omega⟩⟩
/-- Is a speed among some ends? -/
def inE (x : Option (Int × Int)) (v : Nat) : Bool := match x with | none => false | some x => decide (x.1 ≤ v ∧ v ≤ x.2)
/-- Do all gauges but one agree with a speed? -/
def agreesB (errs row : List Int) (f : Int) (v : Int) : Bool := decide (∀ i : Nat, i < row.length → (i : Int) ≠ f → max (row.getD i 0 - v) (v - row.getD i 0) ≤ errs.getD i 0)
theorem agrees_to {errs row : List Int} {f v : Int} : ∀ n : Nat, (∀ i : Nat, i < n → (i : Int) ≠ f → max (row.getD i 0 - v) (v - row.getD i 0) ≤ errs.getD i 0) → 0 ≤ v → v ≤ 1000 → agLo errs row f n ≤ v ∧ v ≤ agHi errs row f n
  | 0, _, h1, h2 => by simp only [agLo, agHi]; omega
  | n + 1, h, h1, h2 => by
    have ih := agrees_to (errs := errs) (row := row) (f := f) (v := v) n (fun i hi => h i (by omega)) h1 h2
    have := h n (by omega)
    simp only [agLo, agHi]
    split
    · exact ih
    · rename_i e; have := this e; omega
theorem agrees_of {errs row : List Int} {f v : Int} : ∀ n : Nat, agLo errs row f n ≤ v → v ≤ agHi errs row f n → ∀ i : Nat, i < n → (i : Int) ≠ f → max (row.getD i 0 - v) (v - row.getD i 0) ≤ errs.getD i 0
  | 0, _, _, i, hi, _ => by omega
  | n + 1, h1, h2, i, hi, hne => by
    simp only [agLo, agHi] at h1 h2
    rcases Nat.lt_or_eq_of_le (Nat.le_of_lt_succ hi) with h3 | h3
    · refine agrees_of (f := f) n ?_ ?_ i h3 hne
      · split at h1 <;> omega
      · split at h2 <;> omega
    · subst h3
      rw [if_neg hne] at h1 h2
      omega
theorem agrees_iff {errs row : List Int} {f : Int} {v : Nat} (hv : v ≤ 1000) : agreesB errs row f v = decide (agLo errs row f row.length ≤ v ∧ (v : Int) ≤ agHi errs row f row.length) := by
  unfold agreesB
  rw [decide_eq_decide]
  exact ⟨fun h => agrees_to row.length h (by omega) (by omega), fun h => agrees_of row.length h.1 h.2⟩
/-- From where a speed comes. -/
def fromLo (p : Post) (v : Nat) : Nat := (max 0 ((v : Int) - p.gain)).toNat
def fromHi (p : Post) (v : Nat) : Nat := (min 1000 ((v : Int) + p.drop)).toNat + 1
def comesB (p : Post) (x : Option (Int × Int)) (v : Nat) : Bool := decide (cnt (fun u => inE x u) (fromLo p v) < cnt (fun u => inE x u) (fromHi p v))
/-- One hour by words: a speed may be if one may be from which it comes, and all gauges but one agree. -/
theorem step_in {p : Post} {row : List Int} {f : Int} {x : Option (Int × Int)} {v : Nat} (hp : PostOK p) (hv : v ≤ 1000) (hx : ∀ z, x = some z → 0 ≤ z.1 ∧ z.1 ≤ z.2 ∧ z.2 ≤ 1000) :
    inE (x.bind (stepX p row false f)) v = (comesB p x v && agreesB p.errs row f v) := by
  have hg := hp.gain
  have hd := hp.drop
  rw [agrees_iff hv]
  have hco := (cnt_lt (f := fun u => inE x u) (a := fromLo p v) (b := fromHi p v) (by unfold fromLo fromHi; omega)).2
  cases x with
  | none =>
    have : comesB p none v = false := decide_eq_false (fun h => by obtain ⟨u, _, _, h⟩ := hco.1 h; simp [inE] at h)
    rw [this]
    simp [inE]
  | some z =>
    have hz := hx z rfl
    have key : comesB p (some z) v = decide (z.1 - p.drop ≤ v ∧ (v : Int) ≤ z.2 + p.gain) := by
      unfold comesB
      rw [decide_eq_decide, hco]
      unfold fromLo fromHi
      constructor
      · rintro ⟨u, h1, h2, h3⟩
        have h4 : z.1 ≤ u ∧ (u : Int) ≤ z.2 := of_decide_eq_true h3
        omega
      · rintro ⟨h1, h2⟩
        refine ⟨(max z.1 (min v z.2)).toNat, by omega, by omega, ?_⟩
        exact decide_eq_true (by omega)
    rw [key]
    simp only [Option.bind_some, stepX, agreedEnds, Bool.false_eq_true, if_false]
    by_cases hc : agHi p.errs row f row.length < agLo p.errs row f row.length
    · rw [if_pos hc, if_pos (.inl rfl), ← Bool.decide_and]
      exact (decide_eq_false (by omega)).symm
    · rw [if_neg hc]
      have hne : ¬ ((agLo p.errs row f row.length, agHi p.errs row f row.length) = ((1, 0) : Int × Int)) := by
        intro e
        simp only [Prod.mk.injEq] at e
        omega
      simp only
      rw [← Bool.decide_and]
      by_cases hm : min (z.2 + p.gain) (agHi p.errs row f row.length) < max (z.1 - p.drop) (agLo p.errs row f row.length)
      · rw [if_pos (.inr hm)]
        exact (decide_eq_false (by omega)).symm
      · rw [if_neg (by rintro (h | h); exact hne h; exact hm h)]
        simp only [inE]
        rw [decide_eq_decide]
        omega
theorem first_in {p : Post} {row : List Int} {f : Int} {v : Nat} (hv : v ≤ 1000) : inE (stepX p row true f (0, 1000)) v = agreesB p.errs row f v := by
  rw [agrees_iff hv]
  simp only [stepX, agreedEnds, if_true]
  have hl := agLo_ge (errs := p.errs) (row := row) (f := f) row.length
  have hh := agHi_le (errs := p.errs) (row := row) (f := f) row.length
  by_cases hc : agHi p.errs row f row.length < agLo p.errs row f row.length
  · rw [if_pos hc, if_pos (.inl rfl)]
    exact (decide_eq_false (by omega)).symm
  · rw [if_neg hc]
    have hne : ¬ ((agLo p.errs row f row.length, agHi p.errs row f row.length) = ((1, 0) : Int × Int)) := by
      intro e
      simp only [Prod.mk.injEq] at e
      omega
    simp only
    rw [if_neg (by rintro (h | h); exact hne h; omega)]
    simp only [inE]
    rw [decide_eq_decide]
    omega
end Al
end Go.Am

/- Contracts of the reference: what may be. -/
namespace Go.Am
namespace Al
open Go.RowKit Go.Proofs
attribute [local irreducible] AWP CallS Kt goK CallK stepK evOps SemF SemY Imp tab cnt
set_option maxRecDepth 4000
set_option linter.unusedSimpArgs false
set_option linter.unusedVariables false
set_option maxHeartbeats 1600000
end Al
end Go.Am

/- Contracts of the reference: levels, states, truths, errors. -/
namespace Go.Am
namespace Al
open Go.RowKit Go.Proofs
attribute [local irreducible] AWP CallS Kt goK CallK stepK evOps SemF SemY Imp
set_option maxRecDepth 4000
set_option linter.unusedSimpArgs false
set_option linter.unusedVariables false
set_option maxHeartbeats 1600000
theorem left_lt {p : Post} {v : Int} (hv : v < p.fall) (hg : 0 < p.gain) (n : Int) : n < leftOf p v ↔ v + n * p.gain < p.fall := by
  have e : leftOf p v = (p.fall - v + p.gain - 1) / p.gain := by
    unfold leftOf
    rw [if_neg (by omega), if_neg (by omega), Int.tdiv_eq_ediv_of_nonneg (by omega)]
  rw [e]
  have := Int.le_ediv_iff_mul_le (a := n + 1) (b := p.fall - v + p.gain - 1) hg
  rw [Int.add_mul] at this
  omega
theorem ends_iff {p : Post} {row : List Int} {f v : Int} : ((agreedEnds p.errs row f).1 ≤ v ∧ v ≤ (agreedEnds p.errs row f).2) ↔ ((0 ≤ v ∧ v ≤ 1000) ∧ agreesB p.errs row f v = true) := by
  have hl := agLo_ge (errs := p.errs) (row := row) (f := f) row.length
  have hh := agHi_le (errs := p.errs) (row := row) (f := f) row.length
  constructor
  · intro h
    have hv : 0 ≤ v ∧ v ≤ 1000 := by
      have := agreed_bd (errs := p.errs) (row := row) (f := f)
      omega
    refine ⟨hv, ?_⟩
    obtain ⟨n, rfl⟩ : ∃ n : Nat, v = n := ⟨v.toNat, by omega⟩
    rw [agrees_iff (by omega)]
    refine decide_eq_true ?_
    unfold agreedEnds at h
    split at h
    · simp only at h; omega
    · exact h
  · rintro ⟨hv, h⟩
    obtain ⟨n, rfl⟩ : ∃ n : Nat, v = n := ⟨v.toNat, by omega⟩
    rw [agrees_iff (by omega)] at h
    have := of_decide_eq_true h
    unfold agreedEnds
    rw [if_neg (by omega)]
    exact this
end Al
end Go.Am

/- Contracts: the reference's errors of posts; what the statements about posts use. -/
namespace Go.Am
namespace Al
open Go.RowKit Go.Proofs
attribute [local irreducible] AWP CallS Kt goK CallK stepK evOps SemF SemY Imp
set_option maxRecDepth 4000
set_option linter.unusedSimpArgs false
set_option linter.unusedVariables false
set_option maxHeartbeats 1600000
theorem right_c (p : Post) (hb : p.errs.length ≤ 9223372036854775807) : CallS Try.prog 4 [.agg (postC p)] (.bool (postB p)) := by
  have hyes : (∀ j, j < p.errs.length → 0 ≤ p.errs.getD j 0 ∧ p.errs.getD j 0 ≤ 1000) → p.errs.all speedB = true := fun h => by
    rw [List.all_eq_true]
    intro x hx
    obtain ⟨j, hj, rfl⟩ := List.mem_iff_getElem.1 hx
    have := h j hj
    rw [show p.errs.getD j 0 = p.errs[j] by simp [List.getD_eq_getElem?_getD, hj]] at this
    exact decide_eq_true this
  have hno : ∀ j, j < p.errs.length → ¬ (0 ≤ p.errs.getD j 0 ∧ p.errs.getD j 0 ≤ 1000) → p.errs.all speedB = false := fun j hj h => by
    cases ha : p.errs.all speedB with
    | false => rfl
    | true => exact absurd (of_decide_eq_true (all_getD ha j hj)) h
  unfold postB
  generalize p.errs.all speedB = al at *
  (refine callS_of_awp (fun w args => Try.call4 ..) Try.func4 rfl (fun w0 m0 wz => ?_); simp only [Try.ntmps4, Try.results4, initT, junks, postC, watchC, sll, sl, List.toList_toArray, List.cons_append, List.nil_append, List.length_cons, List.length_nil, Nat.reduceAdd, Nat.reduceSub])
  (repeat' (first
 | refine awp_seqK ?_
 | refine kt ?_
 | refine And.intro ?_ ?_
 | ((first | refine awp_stp rfl ?_ | refine awp_draw (by kernel_rfl) (by kernel_rfl) ?_ | refine Imp.le2 ?_ | refine go_split (fun _h => ?_) (fun _h => ?_)) <;> try simp (maxSteps := 4000000) only [go_sem, seval, List.append_eq, List.cons_append, List.nil_append, postC, watchC, sll])
 | intro _h
 | refine awp_block ?_
 | refine awp_scope ?_
 | (show heapOK _ _ = true; kernel_rfl)
 | (show heapOK2 _ _ = true; kernel_rfl)
 | (omega)))
  refine awp_loopJ (fun i : Nat => i ≤ p.errs.length ∧ ∀ j, j < i → 0 ≤ p.errs.getD j 0 ∧ p.errs.getD j 0 ≤ 1000) (fun i => ⟨mkT 47 [(1, .ptr 0 0 0), (3, .int .i64 i)], [some (.cells 24 1 0 (postC p))], []⟩) (fun i => p.errs.length - i) 0 ⟨Nat.zero_le _, by simp⟩ (.le2 ?_) ?_
  · simp only [postC]; simp (maxSteps := 4000000) only [go_sem, seval, List.append_eq, List.cons_append, List.nil_append, postC, watchC, sll]
  · rintro i ⟨hi, hj⟩
    have hno := hno i
    simp only [postC]; simp (maxSteps := 4000000) only [go_sem, seval, List.append_eq, List.cons_append, List.nil_append, postC, watchC, sll]
    (repeat' (first
 | refine awp_seqK ?_
 | refine kt ?_
 | refine And.intro ?_ ?_
 | ((first | refine awp_stp rfl ?_ | refine awp_draw (by kernel_rfl) (by kernel_rfl) ?_ | refine Imp.le2 ?_ | refine callK_of (in_c _ _ _) ?_ | refine go_split (fun _h => ?_) (fun _h => ?_)) <;> try simp (maxSteps := 4000000) only [go_sem, seval, List.append_eq, List.cons_append, List.nil_append, postC, watchC, sll])
 | intro _h
 | refine awp_block ?_
 | refine awp_scope ?_
 | (show heapOK _ _ = true; kernel_rfl)
 | (show heapOK2 _ _ = true; kernel_rfl)
 | (omega)))
    all_goals first
      | (refine ⟨i + 1, ⟨by omega, fun j hji => ?_⟩, by omega, .le2 ?_⟩
         · rcases Nat.lt_succ_iff_lt_or_eq.1 hji with h | rfl
           · exact hj j h
           · omega
         · simp (maxSteps := 4000000) only [go_sem, seval, List.append_eq, List.cons_append, List.nil_append, postC, watchC, sll] <;> omega)
      | exact hyes (fun j h => hj j (by omega))
      | (have h9 := hno (by omega) ‹_›; simp_all; done)
      | (have h9 := hyes (fun j h => hj j (by omega)); simp_all; done)
      | trace_state
end Al
end Go.Am

/- Contracts: what the statements about posts use. -/
namespace Go.Am
namespace Al
open Go.RowKit Go.Proofs
attribute [local irreducible] AWP CallS Kt goK CallK stepK evOps SemF SemY Imp
set_option maxRecDepth 4000
set_option linter.unusedSimpArgs false
set_option linter.unusedVariables false
set_option maxHeartbeats 1600000
theorem Post_c (p : Post) (hb : p.errs.length ≤ 1000000) : CallS Try.prog 11 [.agg (postC p)] (.agg (postC p)) := by
  have hl := list_c p.errs hb
  simp only [sl] at hl
  (refine callS_of_awp (fun w args => Try.call11 ..) Try.func11 rfl (fun w0 m0 wz => ?_); simp only [Try.ntmps11, Try.results11, initT, junks, postC, watchC, sll, sl, List.toList_toArray, List.cons_append, List.nil_append, List.length_cons, List.length_nil, Nat.reduceAdd, Nat.reduceSub])
  (repeat' (first
 | refine awp_seqK ?_
 | refine kt ?_
 | refine And.intro ?_ ?_
 | ((first | refine awp_stp rfl ?_ | refine awp_draw (by kernel_rfl) (by kernel_rfl) ?_ | refine Imp.le2 ?_ | refine callK_of (hl) ?_ | refine go_split (fun _h => ?_) (fun _h => ?_)) <;> try simp (maxSteps := 4000000) only [go_sem, seval, List.append_eq, List.cons_append, List.nil_append, postC, watchC, sll])
 | intro _h
 | refine awp_block ?_
 | refine awp_scope ?_
 | (show heapOK _ _ = true; kernel_rfl)
 | (show heapOK2 _ _ = true; kernel_rfl)
 | (omega)))
def thinB (p : Post) (reads : List (List Int)) : Bool := decide (p.errs.length ≤ 15 ∧ reads.length ≤ 65 ∧ ∀ i, i < reads.length → (reads.getD i []).length ≤ 15)
end Al
end Go.Am

/- The law AlarmLevels, as a contract: it returns true. -/
namespace Go.Am
namespace Al
open Go.RowKit Go.Proofs
attribute [local irreducible] AWP CallS Kt goK CallK stepK evOps SemF SemY Imp
set_option maxRecDepth 4000
set_option linter.unusedSimpArgs false
set_option linter.unusedVariables false
set_option maxHeartbeats 1600000
end Al
end Go.Am

/- The law AlarmFails, as a contract: it returns true. -/
namespace Go.Am
namespace Al
open Go.RowKit Go.Proofs
attribute [local irreducible] AWP CallS Kt goK CallK stepK evOps SemF SemY Imp
set_option maxRecDepth 4000
set_option linter.unusedSimpArgs false
set_option linter.unusedVariables false
set_option maxHeartbeats 1600000
end Al
end Go.Am

/- Contracts: a truth by words. -/
namespace Go.Am
namespace Al
open Go.RowKit Go.Proofs
attribute [local irreducible] AWP CallS Kt goK CallK stepK evOps SemF SemY Imp tab
set_option maxRecDepth 4000
set_option linter.unusedSimpArgs false
set_option linter.unusedVariables false
set_option maxHeartbeats 1600000
theorem fz_ints {b g : Nat} {xs : List AV} : ∀ l : List Int, fzl (fz2 b g xs) (ints l) = ints l
  | [] => rfl
  | a :: l => by
    have := fz_ints (b := b) (g := g) (xs := xs) l
    simp only [ints_cons, fzl, this]
    all_goals rfl
theorem fz_rows {b g : Nat} {xs : List AV} : ∀ l : List (List Int), fzl (fz2 b g xs) (rowsC l) = rowsC l
  | [] => rfl
  | a :: l => by
    have := fz_rows (b := b) (g := g) (xs := xs) l
    simp only [rowsC, List.map_cons, fzl] at this ⊢
    rw [this]
    all_goals rfl
attribute [go_sem] fz_ints fz_rows
def u16s (l : List Int) : List AV := l.map (.int .u16)
def slW (l : List Int) : AV := .psl false l.length (u16s l)
theorem u16s_length {l : List Int} : (u16s l).length = l.length := by simp [u16s]
theorem nth_u16s {l : List Int} {j : Nat} {K : AV → Prop} : optK (nth (u16s l) j) K = (j < l.length ∧ K (.int .u16 (l.getD j 0))) := by
  rw [← nth_is]
  simp only [u16s, List.getElem?_map]
  by_cases h : j < l.length
  · simp [h, optK, List.getD_eq_getElem?_getD]
  · simp [h, optK]
attribute [go_sem] u16s_length nth_u16s
def wordsOK (words : List Int) : Prop := words.length ≤ 9223372036854775807 ∧ ∀ i, i < words.length → 0 ≤ words.getD i 0 ∧ words.getD i 0 ≤ 65535
theorem tmod_bd {a b : Int} (ha : 0 ≤ a) (hb : 0 < b) : 0 ≤ a.tmod b ∧ a.tmod b < b := by
  rw [Int.tmod_eq_emod_of_nonneg ha]
  exact ⟨Int.emod_nonneg _ (by omega), Int.emod_lt_of_pos _ hb⟩
theorem tab_zero {α : Type} {f : Nat → α} : tab 0 f = [] := by simp [tab]
theorem tab_succ {α : Type} {n : Nat} {f : Nat → α} : tab (n + 1) f = tab n f ++ [f n] := by simp [tab, List.range_succ]
end Al
end Go.Am

/- Plain words for posts at work: a truth is among what may be. -/
namespace Go.Am
namespace Al
open Go.RowKit Go.Proofs
set_option linter.unusedSimpArgs false
set_option linter.unusedVariables false
theorem gAt_first {p : Post} {reads : List (List Int)} {f : Int} : gAt p reads 1 f = stepX p (reads.getD 0 []) true f (0, 1000) := by
  simp [gAt, stepG]
theorem gAt_succ {p : Post} {reads : List (List Int)} {f : Int} {h : Nat} : gAt p reads (h + 2) f = (gAt p reads (h + 1) f).bind (stepX p (reads.getD (h + 1) []) false f) := by
  show stepG p _ (decide (h + 1 = 0)) (gAt p reads (h + 1)) f = _
  rw [decide_eq_false (by omega)]; rfl
theorem reach_in {p : Post} {reads : List (List Int)} {f : Int} {sp : List Int} (hp : PostOK p) : ∀ h, (∀ j, j ≤ h → okT p reads f sp j) → inE (gAt p reads (h + 1) f) (sp.getD h 0).toNat = true
  | 0, hk => by
    obtain ⟨hv, ha⟩ := ends_iff.1 (hk 0 (Nat.le_refl _)).1
    rw [gAt_first, first_in (by omega)]
    rwa [show ((sp.getD 0 0).toNat : Int) = sp.getD 0 0 by omega]
  | h + 1, hk => by
    have ih := reach_in hp h (fun j hj => hk j (by omega))
    have k := hk (h + 1) (Nat.le_refl _)
    obtain ⟨hv, ha⟩ := ends_iff.1 k.1
    have hb := okT_bd (hk h (by omega))
    have hd := k.2.resolve_left (by omega)
    simp only [Nat.add_sub_cancel] at hd
    rw [gAt_succ, step_in hp (by omega) (fun z hz => gAt_ok (h + 1) f z hz), Bool.and_eq_true]
    refine ⟨?_, by rwa [show ((sp.getD (h + 1) 0).toNat : Int) = sp.getD (h + 1) 0 by omega]⟩
    unfold comesB
    refine decide_eq_true ((cnt_lt (by unfold fromLo fromHi; have := hp.gain; have := hp.drop; omega)).2.2 ⟨(sp.getD h 0).toNat, ?_, ?_, ih⟩)
    · unfold fromLo; omega
    · unfold fromHi; omega
theorem hull_mem {g : Int → Option (Int × Int)} {i : Nat} {x : Int × Int} (hx : g ((i : Int) - 1) = some x) : ∀ n, i < n → ∃ s, hull g n = some s ∧ s.1 ≤ x.1 ∧ x.2 ≤ s.2
  | 0, h => by omega
  | n + 1, h => by
    simp only [hull]
    rcases Nat.lt_or_eq_of_le (Nat.le_of_lt_succ h) with h1 | h1
    · obtain ⟨s, h2, h3, h4⟩ := hull_mem hx n h1
      rw [h2]
      cases g ((n : Int) - 1) with
      | none => exact ⟨s, rfl, h3, h4⟩
      | some y => exact ⟨_, rfl, by simp only [joinE]; omega, by simp only [joinE]; omega⟩
    · subst h1
      rw [hx]
      refine ⟨_, rfl, ?_, ?_⟩ <;> cases hull g i <;> simp only [joinE] <;> omega
theorem hull_in {g : Int → Option (Int × Int)} {f : Int} {v n : Nat} (hv : inE (g f) v = true) (hf : -1 ≤ f ∧ f ≤ (n : Int) - 1) : ∃ s, hull g (n + 1) = some s ∧ s.1 ≤ v ∧ (v : Int) ≤ s.2 := by
  cases hg : g f with
  | none => rw [hg] at hv; cases hv
  | some x =>
    rw [hg] at hv
    have h1 : x.1 ≤ v ∧ (v : Int) ≤ x.2 := of_decide_eq_true hv
    obtain ⟨s, h2, h3, h4⟩ := hull_mem (g := g) (i := (f + 1).toNat) (x := x) (by rw [show (((f + 1).toNat : Nat) : Int) - 1 = f by omega]; exact hg) (n + 1) (by omega)
    exact ⟨s, h2, by omega, by omega⟩
theorem flist_mem {g : Int → Option (Int × Int)} {f : Int} : ∀ n : Nat, f ∈ flist g n ↔ ∃ i : Nat, i < n ∧ f = (i : Int) - 1 ∧ (g f).isSome = true
  | 0 => by simp [flist]
  | n + 1 => by
    have ih := flist_mem (g := g) (f := f) n
    have key : (∃ i : Nat, i < n + 1 ∧ f = (i : Int) - 1 ∧ (g f).isSome = true) ↔ (∃ i : Nat, i < n ∧ f = (i : Int) - 1 ∧ (g f).isSome = true) ∨ (f = (n : Int) - 1 ∧ (g f).isSome = true) := by
      constructor
      · rintro ⟨i, h1, h2, h3⟩
        rcases Nat.lt_or_eq_of_le (Nat.le_of_lt_succ h1) with h4 | h4
        · exact .inl ⟨i, h4, h2, h3⟩
        · subst h4; exact .inr ⟨h2, h3⟩
      · rintro (⟨i, h1, h2, h3⟩ | ⟨h2, h3⟩)
        · exact ⟨i, by omega, h2, h3⟩
        · exact ⟨n, by omega, h2, h3⟩
    rw [key, ← ih]
    simp only [flist]
    cases hg : g ((n : Int) - 1) with
    | none =>
      constructor
      · exact .inl
      · rintro (h | ⟨h1, h2⟩)
        · exact h
        · subst h1; rw [hg] at h2; cases h2
    | some x =>
      rw [List.mem_append, List.mem_singleton]
      constructor
      · rintro (h | h)
        · exact .inl h
        · subst h; exact .inr ⟨rfl, by rw [hg]; rfl⟩
      · rintro (h | h)
        · exact .inl h
        · exact .inr h.1
theorem leftOf_le {p : Post} {v n : Int} (hp : PostOK p) (hn : 0 ≤ n) (h : p.fall ≤ v + n * p.gain) : leftOf p v ≤ n := by
  have hg := hp.gain
  by_cases h1 : p.fall ≤ v
  · unfold leftOf; rw [if_pos h1]; exact hn
  · by_cases h2 : p.gain = 0
    · rw [h2, Int.mul_zero] at h; omega
    · have := left_lt (p := p) (v := v) (by omega) (by omega) n
      omega
/-- How fast a truth rises. -/
theorem truth_rise {p : Post} {reads : List (List Int)} {f : Int} {sp : List Int} {k : Nat} : ∀ d, (∀ j, j ≤ k + d → okT p reads f sp j) → sp.getD (k + d) 0 ≤ sp.getD k 0 + d * p.gain
  | 0, _ => by simp
  | d + 1, h => by
    have ih := truth_rise (k := k) d (fun j hj => h j (by omega))
    have := (h (k + (d + 1)) (Nat.le_refl _)).2.resolve_left (by omega)
    rw [show k + (d + 1) - 1 = k + d by omega] at this
    have e : ((d + 1 : Nat) : Int) * p.gain = (d : Int) * p.gain + p.gain := by
      rw [Int.natCast_add, Int.add_mul]; simp
    rw [e]
    omega
/-- THE THEOREM's heart: the level is Call in time. -/
theorem safe_level {p : Post} {reads : List (List Int)} {f : Int} {sp : List Int} {h k : Nat} {hi : Int} (hp : PostOK p) (ht : ∀ j, j ≤ h → okT p reads f sp j) (hf : p.fall ≤ sp.getD h 0) (hk : k ≤ h) (ho : (h : Int) - k ≤ p.out) (hhi : sp.getD k 0 ≤ hi) : levelOf p hi = 3 := by
  have hr := truth_rise (k := k) (h - k) (fun j hj => ht j (by omega))
  rw [show k + (h - k) = h by omega] at hr
  have hl : leftOf p hi ≤ ((h - k : Nat) : Int) := leftOf_le hp (by omega) (by omega)
  unfold levelOf
  rw [if_pos (by omega)]
end Al
end Go.Am

/- The law AlarmSafe, as a contract: it returns true. -/
namespace Go.Am
namespace Al
open Go.RowKit Go.Proofs
attribute [local irreducible] AWP CallS Kt goK CallK stepK evOps SemF SemY Imp tab
set_option maxRecDepth 4000
set_option linter.unusedSimpArgs false
set_option linter.unusedVariables false
set_option maxHeartbeats 3200000
theorem nth_st2 {l : List (Int × Int × Int)} {i : Nat} {K : AV → Prop} : optK (nth (recs stC l) (i * 3 + 2)) K = (i < l.length ∧ K (.int .u8 (l.getD i default).2.2)) := nth_recs (sz := 3) (o := 2) (fun _ => rfl) (by omega)
attribute [go_sem] nth_st2
theorem mem_tab {α : Type} {n : Nat} {f : Nat → α} {x : α} (h : x ∈ tab n f) : ∃ i, i < n ∧ f i = x := by
  simp only [tab, List.mem_map, List.mem_range] at h
  exact h
/-- What the law looks at. -/
structure SafeF (p : Post) (reads : List (List Int)) (f : Int) (sp : List Int) (H : Nat) (L : List (Int × Int × Int)) (F : List Int) : Prop where
  sl : sp.length = H
  rl : reads.length = H
  ll : L.length = H
  fl : F.length ≤ 11
  lo : ∀ h, h < H → (L.getD h default).1 ≤ sp.getD h 0 ∧ sp.getD h 0 ≤ (L.getD h default).2.1
  lv : ∀ h k, h < H → p.fall ≤ sp.getD h 0 → k ≤ h → (h : Int) - k ≤ p.out → (L.getD k default).2.2 = 3
  mem : ∃ i, i < F.length ∧ F.getD i 0 = f
theorem safe_facts {p : Post} {reads : List (List Int)} {f : Int} {sp : List Int} {H : Nat} (hf : faultP p reads = 0) (hs : sp.length = H) (hr : reads.length = H) (hH : 1 ≤ H) (hfr : -1 ≤ f ∧ f ≤ (p.errs.length : Int) - 1) (hk : ∀ h, h < H → okT p reads f sp h) :
    proveB p reads f sp = true ∧ levelsE p reads = 0 ∧ SafeF p reads f sp H (levelsL p reads) (failedL p reads) := by
  obtain ⟨hp, hro⟩ := faultP_zero hf
  have hin : ∀ h, h < H → ∃ s, stAt p reads h = some s ∧ s.1 ≤ sp.getD h 0 ∧ sp.getD h 0 ≤ s.2 := fun h hh => by
    have h1 := reach_in hp h (fun j hj => hk j (by omega))
    have hb := okT_bd (hk h hh)
    obtain ⟨s, h2, h3, h4⟩ := hull_in (n := p.errs.length) h1 hfr
    exact ⟨s, h2, by omega, by omega⟩
  have hbk : brk p reads = none := by
    cases hb : brk p reads with
    | none => rfl
    | some k =>
      obtain ⟨h1, h2, _⟩ := brk_some hb
      obtain ⟨s, h3, _⟩ := hin k (by omega)
      rw [h2] at h3; cases h3
  have eL : levelsL p reads = states p reads H := by unfold levelsL; rw [if_pos hf, hbk, hr]
  have eE : levelsE p reads = 0 := by unfold levelsE; rw [if_pos hf, hbk]
  have eF : failedL p reads = flist (gAt p reads H) (p.errs.length + 1) := by unfold failedL; rw [if_pos hf, hbk, hr]
  have hget : ∀ h, h < H → (states p reads H).getD h default = stRec p (stAt p reads h) := fun h hh => by
    simp [states, List.getD_eq_getElem?_getD, hh]
  refine ⟨decide_eq_true ⟨hf, by omega, hfr, fun h hh => hk h (by omega)⟩, eE, ?_⟩
  rw [eL, eF]
  refine ⟨hs, hr, states_length, ?_, fun h hh => ?_, fun h k hh hfa hkh ho => ?_, ?_⟩
  · have := flist_le (g := gAt p reads H) (p.errs.length + 1)
    have := hp.len
    omega
  · obtain ⟨s, h1, h2, h3⟩ := hin h hh
    rw [hget h hh, h1]
    exact ⟨h2, h3⟩
  · obtain ⟨s, h1, h2, h3⟩ := hin k (by omega)
    rw [hget k (by omega), h1]
    exact safe_level hp (fun j hj => hk j (by omega)) hfa hkh ho h3
  · have h1 := reach_in hp (H - 1) (fun j hj => hk j (by omega))
    rw [show H - 1 + 1 = H by omega] at h1
    have h2 : f ∈ flist (gAt p reads H) (p.errs.length + 1) := by
      rw [flist_mem]
      refine ⟨(f + 1).toNat, by omega, by omega, ?_⟩
      cases hg : gAt p reads H f with
      | none => rw [hg] at h1; cases h1
      | some x => rfl
    obtain ⟨i, hi, e⟩ := List.mem_iff_getElem.1 h2
    exact ⟨i, hi, by simp [List.getD_eq_getElem?_getD, hi, e]⟩
end Al
end Go.Am

/- Contracts: a post that climbs, by words. -/
namespace Go.Am
namespace Al
open Go.RowKit Go.Proofs
attribute [local irreducible] AWP CallS Kt goK CallK stepK evOps SemF SemY Imp tab
set_option maxRecDepth 4000
set_option linter.unusedSimpArgs false
set_option linter.unusedVariables false
set_option maxHeartbeats 3200000
/-- One of some words. -/
def wdV (words : List Int) (at_ : Int) : Int := if words.length = 0 then 0 else words.getD (at_.tmod words.length).toNat 0
theorem wdV_bd {words : List Int} {at_ : Int} (hw : wordsOK words) (ha : 0 ≤ at_) : 0 ≤ wdV words at_ ∧ wdV words at_ ≤ 65535 := by
  unfold wdV
  split
  · omega
  · have h1 := tmod_bd (b := (words.length : Int)) ha (by omega)
    exact hw.2 (at_.tmod words.length).toNat (by omega)
theorem word_c (words : List Int) (at_ : Int) (hw : wordsOK words) (ha : 0 ≤ at_) : CallS Try.prog 24 [slW words, .int .i64 at_] (.int .i64 (wdV words at_)) := by
  have hw1 := hw.1
  have h1 := fun h : 0 < (words.length : Int) => tmod_bd (b := (words.length : Int)) ha h
  have h2 := fun h : 0 < (words.length : Int) => hw.2 (at_.tmod words.length).toNat (by have := h1 h; omega)
  unfold wdV
  (refine callS_of_awp (fun w args => Try.call24 ..) Try.func24 rfl (fun w0 m0 wz => ?_); simp only [Try.ntmps24, Try.results24, initT, junks, postC, watchC, sll, slSt, slW, sl, List.toList_toArray, List.cons_append, List.nil_append, List.length_cons, List.length_nil, Nat.reduceAdd, Nat.reduceSub])
  (repeat' (first
 | refine awp_seqK ?_
 | refine kt ?_
 | refine And.intro ?_ ?_
 | ((first | refine awp_stp rfl ?_ | refine awp_draw (by kernel_rfl) (by kernel_rfl) ?_ | refine Imp.le2 ?_ | refine go_split (fun _h => ?_) (fun _h => ?_)) <;> try simp (maxSteps := 4000000) only [go_sem, seval, List.append_eq, List.cons_append, List.nil_append, postC, watchC, sll, slSt, slW])
 | intro _h
 | refine awp_block ?_
 | refine awp_scope ?_
 | (show heapOK _ _ = true; kernel_rfl)
 | (show heapOK2 _ _ = true; kernel_rfl)
 | (omega)))
  all_goals first
    | omega
    | (rw [if_pos (by omega)])
    | (rw [if_neg (by omega)])
    | (have h1 := h1 (by omega); have h2 := h2 (by omega); omega)
    | trace_state
/-- The speeds, and the reads. -/
def spC (p : Post) (words : List Int) : Nat → Int
  | 0 => (wdV words 0).tmod (p.fall + 1)
  | h + 1 => if 0 < (wdV words (3 * ((h + 1 : Nat) : Int))).tmod 3 then min 1000 (spC p words h + p.gain)
    else max 0 (spC p words h - p.drop) + (wdV words (3 * ((h + 1 : Nat) : Int))).tmod (min 1000 (spC p words h + p.gain) - max 0 (spC p words h - p.drop) + 1)
theorem spC_step {p : Post} {words : List Int} (hp : PostOK p) (hw : wordsOK words) {s : Int} (hs : 0 ≤ s ∧ s ≤ 1000) {w : Int} (h0 : 0 ≤ w) :
    0 < min 1000 (s + p.gain) - max 0 (s - p.drop) + 1 ∧ 0 ≤ w.tmod (min 1000 (s + p.gain) - max 0 (s - p.drop) + 1) ∧ w.tmod (min 1000 (s + p.gain) - max 0 (s - p.drop) + 1) < min 1000 (s + p.gain) - max 0 (s - p.drop) + 1 := by
  have hd := hp.drop
  have hg := hp.gain
  have h1 : 0 < min 1000 (s + p.gain) - max 0 (s - p.drop) + 1 := by omega
  exact ⟨h1, tmod_bd h0 h1⟩
theorem spC_bd {p : Post} {words : List Int} (hp : PostOK p) (hw : wordsOK words) : ∀ h, 0 ≤ spC p words h ∧ spC p words h ≤ 1000
  | 0 => by
    have h1 := hp.fall
    have h2 := tmod_bd (b := p.fall + 1) (wdV_bd (at_ := 0) hw (by omega)).1 (by omega)
    simp only [spC]; omega
  | h + 1 => by
    have ih := spC_bd hp hw h
    have hd := hp.drop
    have hg := hp.gain
    have h2 := spC_step hp hw ih (wdV_bd (at_ := 3 * ((h + 1 : Nat) : Int)) hw (by omega)).1
    simp only [spC]
    split <;> omega
def rdC (p : Post) (f : Int) (words : List Int) (h i : Nat) : Int :=
  if (i : Int) = f then (wdV words (5 * (h : Int) + 1)).tmod 3001 - 1000 else spC p words h - p.errs.getD i 0 + (wdV words (7 * (h : Int) + i)).tmod (2 * p.errs.getD i 0 + 1)
theorem climb_c (p : Post) (hours f : Int) (words : List Int) (hp : PostOK p) (hw : wordsOK words) (hh : 1 ≤ hours ∧ hours ≤ 60) : CallS Try.prog 12 [.agg (postC p), .int .i64 hours, .int .i64 f, slW words]
    (.tup [sl (tab hours.toNat (spC p words)), sll (tab hours.toNat fun h => tab p.errs.length (rdC p f words h))]) := by
  obtain ⟨hl1, hl2⟩ := hp.len
  have hfa := hp.fall
  have hdr := hp.drop
  have hga := hp.gain
  have hpk := fun at_ a => word_c words at_ hw a
  have hwb := fun at_ (a : 0 ≤ at_) => wdV_bd (words := words) (at_ := at_) hw a
  simp only [slW] at hpk
  have hs0 := spC_bd hp hw 0
  have hz0 : (wdV words 0).tmod (p.fall + 1) = spC p words 0 := rfl
  (refine callS_of_awp (fun w args => Try.call12 ..) Try.func12 rfl (fun w0 m0 wz => ?_); simp only [Try.ntmps12, Try.results12, initT, junks, postC, watchC, sll, slSt, slW, sl, List.toList_toArray, List.cons_append, List.nil_append, List.length_cons, List.length_nil, Nat.reduceAdd, Nat.reduceSub])
  (repeat' (first
 | refine awp_seqK ?_
 | refine kt ?_
 | refine And.intro ?_ ?_
 | ((first | refine awp_stp rfl ?_ | refine awp_draw (by kernel_rfl) (by kernel_rfl) ?_ | refine Imp.le2 ?_ | refine callK_of (hpk _ (by omega)) ?_ | refine go_split (fun _h => ?_) (fun _h => ?_)) <;> try simp (maxSteps := 4000000) only [go_sem, seval, List.append_eq, List.cons_append, List.nil_append, postC, watchC, sll, slSt, slW, hz0])
 | intro _h
 | refine awp_block ?_
 | refine awp_scope ?_
 | (show heapOK _ _ = true; kernel_rfl)
 | (show heapOK2 _ _ = true; kernel_rfl)
 | (omega)))
  (refine awp_adT 10 3 1 rfl ?_; simp only [adT, lset, hset, List.length_cons, List.length_nil, Nat.reduceAdd])
  (refine awp_adT 11 22 1 rfl ?_; simp only [adT, lset, hset, List.length_cons, List.length_nil, Nat.reduceAdd])
  refine awp_loopN hours.toNat (fun h => ⟨mkT 112 [(1, .int .i64 hours), (2, .int .i64 f), (3, slW words), (4, .ptr 0 0 0), (10, .osl 1 h 0 h), (11, .osl 2 h 0 h), (12, .int .i64 (if h = 0 then spC p words 0 else spC p words (h - 1))), (13, .int .i64 h)], [some (.cells 24 1 0 (postC p)), some (.cells 3 1 h (ints (tab h (spC p words)))), some (.cells 22 1 h (rowsC (tab h fun h => tab p.errs.length (rdC p f words h))))], []⟩) (.le2 ?_) ?_
  · simp only [postC]; simp (maxSteps := 4000000) only [go_sem, seval, List.append_eq, List.cons_append, List.nil_append, postC, watchC, sll, slSt, slW]
    rw [tab_zero, tab_zero]
    all_goals first | rfl | exact ⟨rfl, rfl⟩ | exact ⟨rfl, rfl, rfl⟩
  · intro h hle
    rcases Nat.lt_or_eq_of_le hle with hlt | hlt
    · have hb := spC_bd hp hw h
      have he := hp.errs
      have hlen : (tab h (spC p words)).length = h := tab_length
      have htr : tab (h + 1) (fun h => tab p.errs.length (rdC p f words h)) = tab h (fun h => tab p.errs.length (rdC p f words h)) ++ [tab p.errs.length (rdC p f words h)] := tab_succ
      have hS1 : ints (tab h (spC p words)) ++ [AV.int .i64 (spC p words h)] = ints (tab (h + 1) (spC p words)) := by
        have hts : tab (h + 1) (spC p words) = tab h (spC p words) ++ [spC p words h] := tab_succ
        rw [hts]; simp [ints_append, ints_cons, ints_nil]
      have hrl : (tab h fun h => tab p.errs.length (rdC p f words h)).length = h := tab_length
      have hR1 : rowsC (tab h fun h => tab p.errs.length (rdC p f words h)) ++ [AV.psl false p.errs.length (ints (tab p.errs.length (rdC p f words h)))] = rowsC (tab (h + 1) fun h => tab p.errs.length (rdC p f words h)) := by
        rw [htr, rowsC_snoc]; simp [sl, tab_length]
      clear htr
      have hin : ∀ i : Nat, rdC p f words h i = if (i : Int) = f then (wdV words (5 * (h : Int) + 1)).tmod 3001 - 1000 else spC p words h - p.errs.getD i 0 + (wdV words (7 * (h : Int) + i)).tmod (2 * p.errs.getD i 0 + 1) := fun i => rfl
      have hb1 := fun h0 : 0 < h => spC_bd hp hw (h - 1)
      have hst := fun h0 : 0 < h => spC_step (w := wdV words (3 * (h : Int))) hp hw (spC_bd hp hw (h - 1)) (hwb (3 * (h : Int)) (by omega)).1
      have hv : 0 < h → spC p words h = if 0 < (wdV words (3 * (h : Int))).tmod 3 then min 1000 (spC p words (h - 1) + p.gain)
          else max 0 (spC p words (h - 1) - p.drop) + (wdV words (3 * (h : Int))).tmod (min 1000 (spC p words (h - 1) + p.gain) - max 0 (spC p words (h - 1) - p.drop) + 1) := fun h0 => by
        obtain ⟨m, rfl⟩ : ∃ m, h = m + 1 := ⟨h - 1, by omega⟩
        rfl
      have hw3 := hwb (3 * (h : Int)) (by omega)
      have hw5 := hwb (5 * (h : Int) + 1) (by omega)
      have hw7 := fun i : Nat => hwb (7 * (h : Int) + i) (by omega)
      generalize (tab h fun h => tab p.errs.length (rdC p f words h)) = R0 at *
      generalize (tab (h + 1) fun h => tab p.errs.length (rdC p f words h)) = R1 at *
      generalize tab h (spC p words) = S0 at *
      generalize tab (h + 1) (spC p words) = S1 at *
      by_cases h0 : h = 0
      · have e0 : (0 < (h : Int)) = False := eq_false (by omega)
        have e1 : spC p words 0 = spC p words h := by rw [h0]
        rw [if_pos h0, e1]
        clear hst hb1 hv hz0
        generalize hvv : spC p words h = v at *
        simp only [postC]; simp (maxSteps := 4000000) only [go_sem, seval, List.append_eq, List.cons_append, List.nil_append, postC, watchC, sll, slSt, slW]
        (repeat' (first
 | refine awp_seqK ?_
 | refine kt ?_
 | refine And.intro ?_ ?_
 | ((first | refine awp_stp rfl ?_ | refine awp_draw (by kernel_rfl) (by kernel_rfl) ?_ | refine Imp.le2 ?_ | refine go_split (fun _h => ?_) (fun _h => ?_)) <;> try simp (maxSteps := 4000000) only [go_sem, seval, List.append_eq, List.cons_append, List.nil_append, postC, watchC, sll, slSt, slW, e0, decide_false])
 | intro _h
 | refine awp_block ?_
 | refine awp_scope ?_
 | (show heapOK _ _ = true; kernel_rfl)
 | (show heapOK2 _ _ = true; kernel_rfl)
 | (omega)))
        (refine awp_adT 17 3 1 rfl ?_; simp only [adT, lset, hset, List.length_cons, List.length_nil, Nat.reduceAdd])
        refine awp_loopN p.errs.length (fun i => ⟨mkT 112 [(1, .int .i64 hours), (2, .int .i64 f), (3, slW words), (4, .ptr 0 0 0), (10, .osl 1 h 0 h), (11, .osl 2 h 0 h), (12, .int .i64 v), (13, .int .i64 h), (17, .osl 3 i 0 i), (18, .int .i64 i)], [some (.cells 24 1 0 (postC p)), some (.cells 3 1 h (ints S0)), some (.cells 22 1 h (rowsC R0)), some (.cells 3 1 i (ints (tab i (rdC p f words h))))], []⟩) (.le2 ?_) ?_
        · simp only [postC]; simp (maxSteps := 4000000) only [go_sem, seval, List.append_eq, List.cons_append, List.nil_append, postC, watchC, sll, slSt, slW]
          rw [tab_zero]
          all_goals first | rfl | exact ⟨rfl, rfl⟩ | exact ⟨rfl, rfl, rfl⟩
        · intro i hi
          rcases Nat.lt_or_eq_of_le hi with hi1 | hi1
          · have he := he i hi1
            have hin := hin i
            have h7 := hw7 i
            have hmd := tmod_bd (b := 2 * p.errs.getD i 0 + 1) h7.1 (by omega)
            have hm5 := tmod_bd (b := 3001) hw5.1 (by omega)
            have hti : tab (i + 1) (rdC p f words h) = tab i (rdC p f words h) ++ [rdC p f words h i] := tab_succ
            have hlt1 : (tab i (rdC p f words h)).length = i := tab_length
            rw [hti, hin]
            generalize tab i (rdC p f words h) = D at *
            by_cases hif : (i : Int) = f
            · rw [if_pos hif]
              have e2 : ((i : Int) = f) = True := eq_true hif
              simp only [postC]; simp (maxSteps := 4000000) only [go_sem, seval, List.append_eq, List.cons_append, List.nil_append, postC, watchC, sll, slSt, slW]
              (repeat' (first
 | refine awp_seqK ?_
 | refine kt ?_
 | refine And.intro ?_ ?_
 | ((first | refine awp_stp rfl ?_ | refine awp_draw (by kernel_rfl) (by kernel_rfl) ?_ | refine Imp.le2 ?_ | refine callK_of (hpk _ (by omega)) ?_ | refine go_split (fun _h => ?_) (fun _h => ?_)) <;> try simp (maxSteps := 4000000) only [go_sem, seval, List.append_eq, List.cons_append, List.nil_append, postC, watchC, sll, slSt, slW, e2, decide_true])
 | intro _h
 | refine awp_block ?_
 | refine awp_scope ?_
 | (show heapOK _ _ = true; kernel_rfl)
 | (show heapOK2 _ _ = true; kernel_rfl)
 | (omega)))
              all_goals first | omega | (simp [ints_append, ints_cons, ints_nil]; done) | trace_state
            · rw [if_neg hif]
              have e2 : ((i : Int) = f) = False := eq_false hif
              simp only [postC]; simp (maxSteps := 4000000) only [go_sem, seval, List.append_eq, List.cons_append, List.nil_append, postC, watchC, sll, slSt, slW]
              (repeat' (first
 | refine awp_seqK ?_
 | refine kt ?_
 | refine And.intro ?_ ?_
 | ((first | refine awp_stp rfl ?_ | refine awp_draw (by kernel_rfl) (by kernel_rfl) ?_ | refine Imp.le2 ?_ | refine callK_of (hpk _ (by omega)) ?_ | refine go_split (fun _h => ?_) (fun _h => ?_)) <;> try simp (maxSteps := 4000000) only [go_sem, seval, List.append_eq, List.cons_append, List.nil_append, postC, watchC, sll, slSt, slW, e2, decide_false])
 | intro _h
 | refine awp_block ?_
 | refine awp_scope ?_
 | (show heapOK _ _ = true; kernel_rfl)
 | (show heapOK2 _ _ = true; kernel_rfl)
 | (omega)))
              all_goals first | omega | (simp [ints_append, ints_cons, ints_nil]; done) | trace_state
          · subst hi1
            have hlr : (tab p.errs.length (rdC p f words h)).length = p.errs.length := tab_length
            generalize tab p.errs.length (rdC p f words h) = D at *
            simp only [postC]; simp (maxSteps := 4000000) only [go_sem, seval, List.append_eq, List.cons_append, List.nil_append, postC, watchC, sll, slSt, slW]
            (refine awp_frz 3 rfl (by simp (maxSteps := 4000000) only [go_sem, seval, List.append_eq, List.cons_append, List.nil_append, postC, watchC, sll, slSt, slW]) (fun _ => rfl) ?_; simp only [frz, fzl, fz2, fz1, fz0, fzH, fzHs, fzO, fzB, List.map_cons, List.map_nil, if_true, if_false, reduceIte, Nat.reduceEqDiff, Nat.reduceAdd, Nat.succ_ne_self, Nat.zero_ne_one, Nat.one_ne_zero, reduceCtorEq, and_self])
            (repeat' (first
 | ((exfalso; omega))
 | refine awp_seqK ?_
 | refine kt ?_
 | refine And.intro ?_ ?_
 | ((first | refine awp_stp rfl ?_ | refine awp_draw (by kernel_rfl) (by kernel_rfl) ?_ | refine Imp.le2 ?_ | refine go_split (fun _h => ?_) (fun _h => ?_)) <;> try simp (maxSteps := 4000000) only [go_sem, seval, List.append_eq, List.cons_append, List.nil_append, postC, watchC, sll, slSt, slW])
 | intro _h
 | refine awp_block ?_
 | refine awp_scope ?_
 | (show heapOK _ _ = true; kernel_rfl)
 | (show heapOK2 _ _ = true; kernel_rfl)
 | (omega)))
            all_goals first | omega | exact hvv.symm | exact ⟨hS1, hR1⟩ | exact hR1 | trace_state
      · have e0 : (0 < (h : Int)) = True := eq_true (by omega)
        have hb1 := hb1 (by omega)
        have hst := hst (by omega)
        have hv := hv (by omega)
        rw [if_neg h0]
        generalize spC p words (h - 1) = u at *
        generalize hvv : spC p words h = v at *
        by_cases h3 : 0 < (wdV words (3 * (h : Int))).tmod 3
        · rw [if_pos h3] at hv
          have e3 : (0 < (wdV words (3 * (h : Int))).tmod 3) = True := eq_true h3
          simp only [postC]; simp (maxSteps := 4000000) only [go_sem, seval, List.append_eq, List.cons_append, List.nil_append, postC, watchC, sll, slSt, slW]
          (repeat' (first
 | refine awp_seqK ?_
 | refine kt ?_
 | refine And.intro ?_ ?_
 | ((first | refine awp_stp rfl ?_ | refine awp_draw (by kernel_rfl) (by kernel_rfl) ?_ | refine Imp.le2 ?_ | refine callK_of (hpk _ (by omega)) ?_ | refine go_split (fun _h => ?_) (fun _h => ?_)) <;> try simp (maxSteps := 4000000) only [go_sem, seval, List.append_eq, List.cons_append, List.nil_append, postC, watchC, sll, slSt, slW, e0, e3, decide_true])
 | intro _h
 | refine awp_block ?_
 | refine awp_scope ?_
 | (show heapOK _ _ = true; kernel_rfl)
 | (show heapOK2 _ _ = true; kernel_rfl)
 | (omega)))
          rw [← hv]
          (refine awp_adT 17 3 1 rfl ?_; simp only [adT, lset, hset, List.length_cons, List.length_nil, Nat.reduceAdd])
          refine awp_loopN p.errs.length (fun i => ⟨mkT 112 [(1, .int .i64 hours), (2, .int .i64 f), (3, slW words), (4, .ptr 0 0 0), (10, .osl 1 h 0 h), (11, .osl 2 h 0 h), (12, .int .i64 v), (13, .int .i64 h), (17, .osl 3 i 0 i), (18, .int .i64 i)], [some (.cells 24 1 0 (postC p)), some (.cells 3 1 h (ints S0)), some (.cells 22 1 h (rowsC R0)), some (.cells 3 1 i (ints (tab i (rdC p f words h))))], []⟩) (.le2 ?_) ?_
          · simp only [postC]; simp (maxSteps := 4000000) only [go_sem, seval, List.append_eq, List.cons_append, List.nil_append, postC, watchC, sll, slSt, slW]
            rw [tab_zero]
            all_goals first | rfl | exact ⟨rfl, rfl⟩ | exact ⟨rfl, rfl, rfl⟩
          · intro i hi
            rcases Nat.lt_or_eq_of_le hi with hi1 | hi1
            · have he := he i hi1
              have hin := hin i
              have h7 := hw7 i
              have hmd := tmod_bd (b := 2 * p.errs.getD i 0 + 1) h7.1 (by omega)
              have hm5 := tmod_bd (b := 3001) hw5.1 (by omega)
              have hti : tab (i + 1) (rdC p f words h) = tab i (rdC p f words h) ++ [rdC p f words h i] := tab_succ
              have hlt1 : (tab i (rdC p f words h)).length = i := tab_length
              rw [hti, hin]
              generalize tab i (rdC p f words h) = D at *
              by_cases hif : (i : Int) = f
              · rw [if_pos hif]
                have e2 : ((i : Int) = f) = True := eq_true hif
                simp only [postC]; simp (maxSteps := 4000000) only [go_sem, seval, List.append_eq, List.cons_append, List.nil_append, postC, watchC, sll, slSt, slW]
                (repeat' (first
 | refine awp_seqK ?_
 | refine kt ?_
 | refine And.intro ?_ ?_
 | ((first | refine awp_stp rfl ?_ | refine awp_draw (by kernel_rfl) (by kernel_rfl) ?_ | refine Imp.le2 ?_ | refine callK_of (hpk _ (by omega)) ?_ | refine go_split (fun _h => ?_) (fun _h => ?_)) <;> try simp (maxSteps := 4000000) only [go_sem, seval, List.append_eq, List.cons_append, List.nil_append, postC, watchC, sll, slSt, slW, e2, decide_true])
 | intro _h
 | refine awp_block ?_
 | refine awp_scope ?_
 | (show heapOK _ _ = true; kernel_rfl)
 | (show heapOK2 _ _ = true; kernel_rfl)
 | (omega)))
                all_goals first | omega | (simp [ints_append, ints_cons, ints_nil]; done) | trace_state
              · rw [if_neg hif]
                have e2 : ((i : Int) = f) = False := eq_false hif
                simp only [postC]; simp (maxSteps := 4000000) only [go_sem, seval, List.append_eq, List.cons_append, List.nil_append, postC, watchC, sll, slSt, slW]
                (repeat' (first
 | refine awp_seqK ?_
 | refine kt ?_
 | refine And.intro ?_ ?_
 | ((first | refine awp_stp rfl ?_ | refine awp_draw (by kernel_rfl) (by kernel_rfl) ?_ | refine Imp.le2 ?_ | refine callK_of (hpk _ (by omega)) ?_ | refine go_split (fun _h => ?_) (fun _h => ?_)) <;> try simp (maxSteps := 4000000) only [go_sem, seval, List.append_eq, List.cons_append, List.nil_append, postC, watchC, sll, slSt, slW, e2, decide_false])
 | intro _h
 | refine awp_block ?_
 | refine awp_scope ?_
 | (show heapOK _ _ = true; kernel_rfl)
 | (show heapOK2 _ _ = true; kernel_rfl)
 | (omega)))
                all_goals first | omega | (simp [ints_append, ints_cons, ints_nil]; done) | trace_state
            · subst hi1
              have hlr : (tab p.errs.length (rdC p f words h)).length = p.errs.length := tab_length
              generalize tab p.errs.length (rdC p f words h) = D at *
              simp only [postC]; simp (maxSteps := 4000000) only [go_sem, seval, List.append_eq, List.cons_append, List.nil_append, postC, watchC, sll, slSt, slW]
              (refine awp_frz 3 rfl (by simp (maxSteps := 4000000) only [go_sem, seval, List.append_eq, List.cons_append, List.nil_append, postC, watchC, sll, slSt, slW]) (fun _ => rfl) ?_; simp only [frz, fzl, fz2, fz1, fz0, fzH, fzHs, fzO, fzB, List.map_cons, List.map_nil, if_true, if_false, reduceIte, Nat.reduceEqDiff, Nat.reduceAdd, Nat.succ_ne_self, Nat.zero_ne_one, Nat.one_ne_zero, reduceCtorEq, and_self])
              (repeat' (first
 | ((exfalso; omega))
 | refine awp_seqK ?_
 | refine kt ?_
 | refine And.intro ?_ ?_
 | ((first | refine awp_stp rfl ?_ | refine awp_draw (by kernel_rfl) (by kernel_rfl) ?_ | refine Imp.le2 ?_ | refine go_split (fun _h => ?_) (fun _h => ?_)) <;> try simp (maxSteps := 4000000) only [go_sem, seval, List.append_eq, List.cons_append, List.nil_append, postC, watchC, sll, slSt, slW])
 | intro _h
 | refine awp_block ?_
 | refine awp_scope ?_
 | (show heapOK _ _ = true; kernel_rfl)
 | (show heapOK2 _ _ = true; kernel_rfl)
 | (omega)))
              all_goals first | omega | exact hvv.symm | exact ⟨hS1, hR1⟩ | exact hR1 | trace_state
        · rw [if_neg h3] at hv
          have e3 : (0 < (wdV words (3 * (h : Int))).tmod 3) = False := eq_false h3
          simp only [postC]; simp (maxSteps := 4000000) only [go_sem, seval, List.append_eq, List.cons_append, List.nil_append, postC, watchC, sll, slSt, slW]
          (repeat' (first
 | ((omega))
 | refine awp_seqK ?_
 | refine kt ?_
 | refine And.intro ?_ ?_
 | ((first | refine awp_stp rfl ?_ | refine awp_draw (by kernel_rfl) (by kernel_rfl) ?_ | refine Imp.le2 ?_ | refine callK_of (hpk _ (by omega)) ?_ | refine go_split (fun _h => ?_) (fun _h => ?_)) <;> try simp (maxSteps := 4000000) only [go_sem, seval, List.append_eq, List.cons_append, List.nil_append, postC, watchC, sll, slSt, slW, e0, e3, decide_true, decide_false])
 | intro _h
 | refine awp_block ?_
 | refine awp_scope ?_
 | (show heapOK _ _ = true; kernel_rfl)
 | (show heapOK2 _ _ = true; kernel_rfl)
 | (omega)))
          rw [← hv]
          (refine awp_adT 17 3 1 rfl ?_; simp only [adT, lset, hset, List.length_cons, List.length_nil, Nat.reduceAdd])
          refine awp_loopN p.errs.length (fun i => ⟨mkT 112 [(1, .int .i64 hours), (2, .int .i64 f), (3, slW words), (4, .ptr 0 0 0), (10, .osl 1 h 0 h), (11, .osl 2 h 0 h), (12, .int .i64 v), (13, .int .i64 h), (17, .osl 3 i 0 i), (18, .int .i64 i)], [some (.cells 24 1 0 (postC p)), some (.cells 3 1 h (ints S0)), some (.cells 22 1 h (rowsC R0)), some (.cells 3 1 i (ints (tab i (rdC p f words h))))], []⟩) (.le2 ?_) ?_
          · simp only [postC]; simp (maxSteps := 4000000) only [go_sem, seval, List.append_eq, List.cons_append, List.nil_append, postC, watchC, sll, slSt, slW]
            rw [tab_zero]
            all_goals first | rfl | exact ⟨rfl, rfl⟩ | exact ⟨rfl, rfl, rfl⟩
          · intro i hi
            rcases Nat.lt_or_eq_of_le hi with hi1 | hi1
            · have he := he i hi1
              have hin := hin i
              have h7 := hw7 i
              have hmd := tmod_bd (b := 2 * p.errs.getD i 0 + 1) h7.1 (by omega)
              have hm5 := tmod_bd (b := 3001) hw5.1 (by omega)
              have hti : tab (i + 1) (rdC p f words h) = tab i (rdC p f words h) ++ [rdC p f words h i] := tab_succ
              have hlt1 : (tab i (rdC p f words h)).length = i := tab_length
              rw [hti, hin]
              generalize tab i (rdC p f words h) = D at *
              by_cases hif : (i : Int) = f
              · rw [if_pos hif]
                have e2 : ((i : Int) = f) = True := eq_true hif
                simp only [postC]; simp (maxSteps := 4000000) only [go_sem, seval, List.append_eq, List.cons_append, List.nil_append, postC, watchC, sll, slSt, slW]
                (repeat' (first
 | refine awp_seqK ?_
 | refine kt ?_
 | refine And.intro ?_ ?_
 | ((first | refine awp_stp rfl ?_ | refine awp_draw (by kernel_rfl) (by kernel_rfl) ?_ | refine Imp.le2 ?_ | refine callK_of (hpk _ (by omega)) ?_ | refine go_split (fun _h => ?_) (fun _h => ?_)) <;> try simp (maxSteps := 4000000) only [go_sem, seval, List.append_eq, List.cons_append, List.nil_append, postC, watchC, sll, slSt, slW, e2, decide_true])
 | intro _h
 | refine awp_block ?_
 | refine awp_scope ?_
 | (show heapOK _ _ = true; kernel_rfl)
 | (show heapOK2 _ _ = true; kernel_rfl)
 | (omega)))
                all_goals first | omega | (simp [ints_append, ints_cons, ints_nil]; done) | trace_state
              · rw [if_neg hif]
                have e2 : ((i : Int) = f) = False := eq_false hif
                simp only [postC]; simp (maxSteps := 4000000) only [go_sem, seval, List.append_eq, List.cons_append, List.nil_append, postC, watchC, sll, slSt, slW]
                (repeat' (first
 | refine awp_seqK ?_
 | refine kt ?_
 | refine And.intro ?_ ?_
 | ((first | refine awp_stp rfl ?_ | refine awp_draw (by kernel_rfl) (by kernel_rfl) ?_ | refine Imp.le2 ?_ | refine callK_of (hpk _ (by omega)) ?_ | refine go_split (fun _h => ?_) (fun _h => ?_)) <;> try simp (maxSteps := 4000000) only [go_sem, seval, List.append_eq, List.cons_append, List.nil_append, postC, watchC, sll, slSt, slW, e2, decide_false])
 | intro _h
 | refine awp_block ?_
 | refine awp_scope ?_
 | (show heapOK _ _ = true; kernel_rfl)
 | (show heapOK2 _ _ = true; kernel_rfl)
 | (omega)))
                all_goals first | omega | (simp [ints_append, ints_cons, ints_nil]; done) | trace_state
            · subst hi1
              have hlr : (tab p.errs.length (rdC p f words h)).length = p.errs.length := tab_length
              generalize tab p.errs.length (rdC p f words h) = D at *
              simp only [postC]; simp (maxSteps := 4000000) only [go_sem, seval, List.append_eq, List.cons_append, List.nil_append, postC, watchC, sll, slSt, slW]
              (refine awp_frz 3 rfl (by simp (maxSteps := 4000000) only [go_sem, seval, List.append_eq, List.cons_append, List.nil_append, postC, watchC, sll, slSt, slW]) (fun _ => rfl) ?_; simp only [frz, fzl, fz2, fz1, fz0, fzH, fzHs, fzO, fzB, List.map_cons, List.map_nil, if_true, if_false, reduceIte, Nat.reduceEqDiff, Nat.reduceAdd, Nat.succ_ne_self, Nat.zero_ne_one, Nat.one_ne_zero, reduceCtorEq, and_self])
              (repeat' (first
 | ((exfalso; omega))
 | refine awp_seqK ?_
 | refine kt ?_
 | refine And.intro ?_ ?_
 | ((first | refine awp_stp rfl ?_ | refine awp_draw (by kernel_rfl) (by kernel_rfl) ?_ | refine Imp.le2 ?_ | refine go_split (fun _h => ?_) (fun _h => ?_)) <;> try simp (maxSteps := 4000000) only [go_sem, seval, List.append_eq, List.cons_append, List.nil_append, postC, watchC, sll, slSt, slW])
 | intro _h
 | refine awp_block ?_
 | refine awp_scope ?_
 | (show heapOK _ _ = true; kernel_rfl)
 | (show heapOK2 _ _ = true; kernel_rfl)
 | (omega)))
              all_goals first | omega | exact hvv.symm | exact ⟨hS1, hR1⟩ | exact hR1 | trace_state
    · subst hlt
      have hlen : (tab hours.toNat (spC p words)).length = hours.toNat := tab_length
      have hlen2 : (tab hours.toNat fun h => tab p.errs.length (rdC p f words h)).length = hours.toNat := tab_length
      generalize (tab hours.toNat fun h => tab p.errs.length (rdC p f words h)) = R0 at *
      generalize tab hours.toNat (spC p words) = S0 at *
      simp only [postC]; simp (maxSteps := 4000000) only [go_sem, seval, List.append_eq, List.cons_append, List.nil_append, postC, watchC, sll, slSt, slW]
      (repeat' (first
 | ((exfalso; omega))
 | refine awp_seqK ?_
 | refine kt ?_
 | refine And.intro ?_ ?_
 | ((first | refine awp_stp rfl ?_ | refine awp_draw (by kernel_rfl) (by kernel_rfl) ?_ | refine Imp.le2 ?_ | refine go_split (fun _h => ?_) (fun _h => ?_)) <;> try simp (maxSteps := 4000000) only [go_sem, seval, List.append_eq, List.cons_append, List.nil_append, postC, watchC, sll, slSt, slW])
 | intro _h
 | refine awp_block ?_
 | refine awp_scope ?_
 | (show heapOK _ _ = true; kernel_rfl)
 | (show heapOK2 _ _ = true; kernel_rfl)
 | (omega)))
      trace_state
end Al
end Go.Am

/- Plain words: what climbs is a truth of the post, however many hours people need. No program is in sight. -/
namespace Go.Am
namespace Al
open Go.RowKit Go.Proofs
set_option linter.unusedSimpArgs false
set_option linter.unusedVariables false
/-- A post whose people need some hours. -/
def outP (p : Post) (o : Int) : Post := { p with out := o }
theorem outP_B {p : Post} {o : Int} (h : postB p = true) (ho : 0 ≤ o ∧ o ≤ 60) : postB (outP p o) = true := by
  unfold postB outP at *
  simp only [Bool.and_eq_true, decide_eq_true_eq] at h ⊢
  simp_all
def fN (f : Int) : Int := if f < 0 then -1 else f
theorem rdC_fN {p : Post} {f : Int} {words : List Int} {h i : Nat} : rdC p f words h i = rdC p (fN f) words h i := by
  unfold rdC fN
  by_cases h0 : f < 0
  · rw [if_neg (by omega), if_pos h0, if_neg (by omega)]
  · rw [if_neg h0]
theorem rdC_bd {p : Post} {f : Int} {words : List Int} {h i : Nat} (hp : PostOK p) (hw : wordsOK words) (hi : i < p.errs.length) : -1000 ≤ rdC p f words h i ∧ rdC p f words h i ≤ 2000 := by
  have hs := spC_bd hp hw h
  have he := hp.errs i hi
  have h5 := tmod_bd (b := 3001) (wdV_bd (at_ := 5 * (h : Int) + 1) hw (by omega)).1 (by omega)
  have h7 := tmod_bd (b := 2 * p.errs.getD i 0 + 1) (wdV_bd (at_ := 7 * (h : Int) + i) hw (by omega)).1 (by omega)
  unfold rdC
  split <;> omega
theorem climb_fault {p : Post} {o f : Int} {words : List Int} {H : Nat} (hpb : postB p = true) (ho : 0 ≤ o ∧ o ≤ 60) (hw : wordsOK words) (hH : H ≤ 60) : faultP (outP p o) (tab H fun h => tab p.errs.length (rdC p f words h)) = 0 := by
  have hp := postB_ok hpb
  unfold faultP
  rw [if_neg (by rw [outP_B hpb ho]; simp), if_neg (by rw [tab_length]; omega), if_pos]
  rw [List.all_eq_true]
  intro r hr
  obtain ⟨h, _, rfl⟩ := mem_tab hr
  have hl : (outP p o).errs.length = p.errs.length := rfl
  simp only [rowB, tab_length, hl, decide_true, Bool.true_and, List.all_eq_true]
  intro x hx
  obtain ⟨i, hi, rfl⟩ := mem_tab hx
  exact decide_eq_true (rdC_bd hp hw hi)
theorem climb_ok {p : Post} {o f : Int} {words : List Int} {H : Nat} (hp : PostOK p) (hw : wordsOK words) {h : Nat} (hh : h < H) : okT (outP p o) (tab H fun h => tab p.errs.length (rdC p f words h)) f (tab H (spC p words)) h := by
  have hs := spC_bd hp hw h
  have hd := hp.drop
  have hg := hp.gain
  rw [okT_iff, ends_iff, tab_getD hh, tab_getD hh]
  refine ⟨⟨hs, decide_eq_true fun i hi hne => ?_⟩, ?_⟩
  · rw [tab_length] at hi
    have he := hp.errs i hi
    rw [tab_getD hi]
    unfold rdC
    rw [if_neg hne]
    have h7 := tmod_bd (b := 2 * p.errs.getD i 0 + 1) (wdV_bd (at_ := 7 * (h : Int) + i) hw (by omega)).1 (by omega)
    have e1 : (outP p o).errs = p.errs := rfl
    rw [e1]
    omega
  · cases h with
    | zero => exact .inl rfl
    | succ h =>
      right
      rw [show h + 1 - 1 = h by omega, tab_getD (show h < H by omega)]
      have hs' := spC_bd hp hw h
      have h2 := spC_step hp hw hs' (wdV_bd (at_ := 3 * ((h + 1 : Nat) : Int)) hw (by omega)).1
      have e1 : (outP p o).drop = p.drop := rfl
      have e2 : (outP p o).gain = p.gain := rfl
      rw [e1, e2]
      simp only [spC]
      split <;> omega
/-- What the law looks at. -/
structure ClimbF (p : Post) (o : Int) (sp : List Int) (H : Nat) (L : List (Int × Int × Int)) : Prop where
  sl : sp.length = H
  ll : L.length = H
  lv : ∀ h k, h < H → p.fall ≤ sp.getD h 0 → k ≤ h → (h : Int) - k ≤ o → (L.getD k default).2.2 = 3
theorem climb_facts {p : Post} {o f : Int} {words : List Int} {H : Nat} (hpb : postB p = true) (ho : 0 ≤ o ∧ o ≤ 60) (hw : wordsOK words) (hH : 1 ≤ H ∧ H ≤ 60) (hf : f ≤ (p.errs.length : Int) - 1) :
    levelsE (outP p o) (tab H fun h => tab p.errs.length (rdC p f words h)) = 0 ∧ ClimbF p o (tab H (spC p words)) H (levelsL (outP p o) (tab H fun h => tab p.errs.length (rdC p f words h))) := by
  have e : (tab H fun h => tab p.errs.length (rdC p f words h)) = tab H fun h => tab p.errs.length (rdC p (fN f) words h) := by
    congr 1
    funext h
    congr 1
    funext i
    exact rdC_fN
  have hp := postB_ok hpb
  have hl := hp.len
  rw [e]
  obtain ⟨s1, s2, s3⟩ := safe_facts (p := outP p o) (reads := tab H fun h => tab p.errs.length (rdC p (fN f) words h)) (f := fN f) (sp := tab H (spC p words)) (H := H) (climb_fault hpb ho hw hH.2) tab_length tab_length hH.1 (by
    show -1 ≤ fN f ∧ fN f ≤ (p.errs.length : Int) - 1
    unfold fN; split <;> omega) (fun h hh => climb_ok hp hw hh)
  exact ⟨s2, s3.sl, s3.ll, s3.lv⟩
end Al
end Go.Am
