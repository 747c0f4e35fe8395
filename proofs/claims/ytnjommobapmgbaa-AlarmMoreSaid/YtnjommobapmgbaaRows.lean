/-
  No cell of these rows narrows 'for every input' (looked for: loops, veiled, ifaces, maps, wideKeys, modest, calm, conditions, laid).
  DERIVED. THE GIVEN ROWS OF THIS SEAT. 14 by the template 'for every input the law returns true; each argument reads behind the call as it read before'; 0 by the template 'total and deterministic' (their statements: YtnjommobapmgbaaTotals.lean).
  GIVEN WITH THE SEED: the statements are not yours to turn. If you find one false, say at which input.
  Laid BY PROGRAM, IN A SANDBOX (cutbox-rows.mjs): the forced cells as the released guide's own fill.sh prints them over the translation a6769a2b4d95535a… (all of the seat's roots in one cut). By AI agents, Wed Nov 11 2026. No macro, syntax, notation, axiom, sorry.
-/
import Derived.Test.YtnjommobapmgbaaChecked
import GoSem.Claim
import GoSem.ClaimJoined
import GoSem.ClaimMapViews
import Derived.JoinedTies
import Derived.KernelRfl
namespace Go.Proofs.Ytnjommobapmgbaa
/- THE CELL 'sum', in the pinned program and in every row, IS THE sha256 OF THE DUMP (.gsa) THAT YtnjommobapmgbaaProg.lean LOADS. Nothing in Lean hashes anything: it is a label: what it is worth is what the hold of that sum in a sandbox is worth. -/
noncomputable def Try.pinned : Pinned := { name := "ytnjommobapmgbaa", sum := "a6769a2b4d95535a5861a95add59434a07e2102fa78953b531a46768e830e25d", checked := Try.checked }
namespace Rows
def none {H : Type} : Left H := { results := [], args := [] }

/-- 'sackunglaw04.AlarmSpells': WHATEVER THE INPUT: true; the input reads as it did. -/
def alarmSpellsSpec : ChangeSpec := { name := "alarmSpells", fn := fun _ => fun
  | [d1, d2] => { results := [.lit (.bool true)], args := [d1, d2] }
  | _ => none }
def alarmSpellsRow : OpenClaim := { program := "ytnjommobapmgbaa", sum := "a6769a2b4d95535a5861a95add59434a07e2102fa78953b531a46768e830e25d", func := "sackung/sackunglaw04.AlarmSpells", spec := "alarmSpells", unfollowed := true, recurses := true, apart := false }
def AlarmSpellsSaid : Prop := alarmSpellsRow.holds Try.pinned (OpenSpec.ofChange alarmSpellsSpec)

/-- ITS FALSE NEIGHBOUR: 'it returns false'. Refute it at one input. -/
def alarmSpellsWrong : ChangeSpec := { name := "alarmSpells", fn := fun _ => fun
  | [d1, d2] => { results := [.lit (.bool false)], args := [d1, d2] }
  | _ => none }
def AlarmSpellsWrongFalsely : Prop := alarmSpellsRow.holds Try.pinned (OpenSpec.ofChange alarmSpellsWrong)

/-- 'sackunglaw04.AlarmMore': WHATEVER THE INPUT: true; the input reads as it did. -/
def alarmMoreSpec : ChangeSpec := { name := "alarmMore", fn := fun _ => fun
  | [d1, d2, d3, d4] => { results := [.lit (.bool true)], args := [d1, d2, d3, d4] }
  | _ => none }
def alarmMoreRow : OpenClaim := { program := "ytnjommobapmgbaa", sum := "a6769a2b4d95535a5861a95add59434a07e2102fa78953b531a46768e830e25d", func := "sackung/sackunglaw04.AlarmMore", spec := "alarmMore", unfollowed := true, recurses := true, apart := false }
def AlarmMoreSaid : Prop := alarmMoreRow.holds Try.pinned (OpenSpec.ofChange alarmMoreSpec)

/-- ITS FALSE NEIGHBOUR: 'it returns false'. Refute it at one input. -/
def alarmMoreWrong : ChangeSpec := { name := "alarmMore", fn := fun _ => fun
  | [d1, d2, d3, d4] => { results := [.lit (.bool false)], args := [d1, d2, d3, d4] }
  | _ => none }
def AlarmMoreWrongFalsely : Prop := alarmMoreRow.holds Try.pinned (OpenSpec.ofChange alarmMoreWrong)

/-- 'sackunglaw04.AlarmOn': WHATEVER THE INPUT: true; the input reads as it did. -/
def alarmOnSpec : ChangeSpec := { name := "alarmOn", fn := fun _ => fun
  | [d1, d2] => { results := [.lit (.bool true)], args := [d1, d2] }
  | _ => none }
def alarmOnRow : OpenClaim := { program := "ytnjommobapmgbaa", sum := "a6769a2b4d95535a5861a95add59434a07e2102fa78953b531a46768e830e25d", func := "sackung/sackunglaw04.AlarmOn", spec := "alarmOn", unfollowed := true, recurses := true, apart := false }
def AlarmOnSaid : Prop := alarmOnRow.holds Try.pinned (OpenSpec.ofChange alarmOnSpec)

/-- ITS FALSE NEIGHBOUR: 'it returns false'. Refute it at one input. -/
def alarmOnWrong : ChangeSpec := { name := "alarmOn", fn := fun _ => fun
  | [d1, d2] => { results := [.lit (.bool false)], args := [d1, d2] }
  | _ => none }
def AlarmOnWrongFalsely : Prop := alarmOnRow.holds Try.pinned (OpenSpec.ofChange alarmOnWrong)

/-- 'sackunglaw04.AlarmLone': WHATEVER THE INPUT: true; the input reads as it did. -/
def alarmLoneSpec : ChangeSpec := { name := "alarmLone", fn := fun _ => fun
  | [d1, d2, d3] => { results := [.lit (.bool true)], args := [d1, d2, d3] }
  | _ => none }
def alarmLoneRow : OpenClaim := { program := "ytnjommobapmgbaa", sum := "a6769a2b4d95535a5861a95add59434a07e2102fa78953b531a46768e830e25d", func := "sackung/sackunglaw04.AlarmLone", spec := "alarmLone", unfollowed := true, recurses := true, apart := false }
def AlarmLoneSaid : Prop := alarmLoneRow.holds Try.pinned (OpenSpec.ofChange alarmLoneSpec)

/-- ITS FALSE NEIGHBOUR: 'it returns false'. Refute it at one input. -/
def alarmLoneWrong : ChangeSpec := { name := "alarmLone", fn := fun _ => fun
  | [d1, d2, d3] => { results := [.lit (.bool false)], args := [d1, d2, d3] }
  | _ => none }
def AlarmLoneWrongFalsely : Prop := alarmLoneRow.holds Try.pinned (OpenSpec.ofChange alarmLoneWrong)

/-- 'sackunglaw04.AlarmLevels': WHATEVER THE INPUT: true; the input reads as it did. -/
def alarmLevelsSpec : ChangeSpec := { name := "alarmLevels", fn := fun _ => fun
  | [d1, d2] => { results := [.lit (.bool true)], args := [d1, d2] }
  | _ => none }
def alarmLevelsRow : OpenClaim := { program := "ytnjommobapmgbaa", sum := "a6769a2b4d95535a5861a95add59434a07e2102fa78953b531a46768e830e25d", func := "sackung/sackunglaw04.AlarmLevels", spec := "alarmLevels", unfollowed := true, recurses := true, apart := false }
def AlarmLevelsSaid : Prop := alarmLevelsRow.holds Try.pinned (OpenSpec.ofChange alarmLevelsSpec)

/-- ITS FALSE NEIGHBOUR: 'it returns false'. Refute it at one input. -/
def alarmLevelsWrong : ChangeSpec := { name := "alarmLevels", fn := fun _ => fun
  | [d1, d2] => { results := [.lit (.bool false)], args := [d1, d2] }
  | _ => none }
def AlarmLevelsWrongFalsely : Prop := alarmLevelsRow.holds Try.pinned (OpenSpec.ofChange alarmLevelsWrong)

/-- 'sackunglaw04.AlarmFails': WHATEVER THE INPUT: true; the input reads as it did. -/
def alarmFailsSpec : ChangeSpec := { name := "alarmFails", fn := fun _ => fun
  | [d1, d2, d3, d4] => { results := [.lit (.bool true)], args := [d1, d2, d3, d4] }
  | _ => none }
def alarmFailsRow : OpenClaim := { program := "ytnjommobapmgbaa", sum := "a6769a2b4d95535a5861a95add59434a07e2102fa78953b531a46768e830e25d", func := "sackung/sackunglaw04.AlarmFails", spec := "alarmFails", unfollowed := true, recurses := true, apart := false }
def AlarmFailsSaid : Prop := alarmFailsRow.holds Try.pinned (OpenSpec.ofChange alarmFailsSpec)

/-- ITS FALSE NEIGHBOUR: 'it returns false'. Refute it at one input. -/
def alarmFailsWrong : ChangeSpec := { name := "alarmFails", fn := fun _ => fun
  | [d1, d2, d3, d4] => { results := [.lit (.bool false)], args := [d1, d2, d3, d4] }
  | _ => none }
def AlarmFailsWrongFalsely : Prop := alarmFailsRow.holds Try.pinned (OpenSpec.ofChange alarmFailsWrong)

/-- 'sackunglaw04.AlarmSafe': WHATEVER THE INPUT: true; the input reads as it did. -/
def alarmSafeSpec : ChangeSpec := { name := "alarmSafe", fn := fun _ => fun
  | [d1, d2, d3, d4] => { results := [.lit (.bool true)], args := [d1, d2, d3, d4] }
  | _ => none }
def alarmSafeRow : OpenClaim := { program := "ytnjommobapmgbaa", sum := "a6769a2b4d95535a5861a95add59434a07e2102fa78953b531a46768e830e25d", func := "sackung/sackunglaw04.AlarmSafe", spec := "alarmSafe", unfollowed := true, recurses := true, apart := false }
def AlarmSafeSaid : Prop := alarmSafeRow.holds Try.pinned (OpenSpec.ofChange alarmSafeSpec)

/-- ITS FALSE NEIGHBOUR: 'it returns false'. Refute it at one input. -/
def alarmSafeWrong : ChangeSpec := { name := "alarmSafe", fn := fun _ => fun
  | [d1, d2, d3, d4] => { results := [.lit (.bool false)], args := [d1, d2, d3, d4] }
  | _ => none }
def AlarmSafeWrongFalsely : Prop := alarmSafeRow.holds Try.pinned (OpenSpec.ofChange alarmSafeWrong)

/-- 'sackunglaw04.AlarmFinds': WHATEVER THE INPUT: true; the input reads as it did. -/
def alarmFindsSpec : ChangeSpec := { name := "alarmFinds", fn := fun _ => fun
  | [d1, d2, d3, d4] => { results := [.lit (.bool true)], args := [d1, d2, d3, d4] }
  | _ => none }
def alarmFindsRow : OpenClaim := { program := "ytnjommobapmgbaa", sum := "a6769a2b4d95535a5861a95add59434a07e2102fa78953b531a46768e830e25d", func := "sackung/sackunglaw04.AlarmFinds", spec := "alarmFinds", unfollowed := true, recurses := true, apart := false }
def AlarmFindsSaid : Prop := alarmFindsRow.holds Try.pinned (OpenSpec.ofChange alarmFindsSpec)

/-- ITS FALSE NEIGHBOUR: 'it returns false'. Refute it at one input. -/
def alarmFindsWrong : ChangeSpec := { name := "alarmFinds", fn := fun _ => fun
  | [d1, d2, d3, d4] => { results := [.lit (.bool false)], args := [d1, d2, d3, d4] }
  | _ => none }
def AlarmFindsWrongFalsely : Prop := alarmFindsRow.holds Try.pinned (OpenSpec.ofChange alarmFindsWrong)

/-- 'sackunglaw04.AlarmEnds': WHATEVER THE INPUT: true; the input reads as it did. -/
def alarmEndsSpec : ChangeSpec := { name := "alarmEnds", fn := fun _ => fun
  | [d1, d2, d3] => { results := [.lit (.bool true)], args := [d1, d2, d3] }
  | _ => none }
def alarmEndsRow : OpenClaim := { program := "ytnjommobapmgbaa", sum := "a6769a2b4d95535a5861a95add59434a07e2102fa78953b531a46768e830e25d", func := "sackung/sackunglaw04.AlarmEnds", spec := "alarmEnds", unfollowed := true, recurses := true, apart := false }
def AlarmEndsSaid : Prop := alarmEndsRow.holds Try.pinned (OpenSpec.ofChange alarmEndsSpec)

/-- ITS FALSE NEIGHBOUR: 'it returns false'. Refute it at one input. -/
def alarmEndsWrong : ChangeSpec := { name := "alarmEnds", fn := fun _ => fun
  | [d1, d2, d3] => { results := [.lit (.bool false)], args := [d1, d2, d3] }
  | _ => none }
def AlarmEndsWrongFalsely : Prop := alarmEndsRow.holds Try.pinned (OpenSpec.ofChange alarmEndsWrong)

/-- 'sackunglaw04.AlarmPrices': WHATEVER THE INPUT: true; the input reads as it did. -/
def alarmPricesSpec : ChangeSpec := { name := "alarmPrices", fn := fun _ => fun
  | [d1, d2, d3] => { results := [.lit (.bool true)], args := [d1, d2, d3] }
  | _ => none }
def alarmPricesRow : OpenClaim := { program := "ytnjommobapmgbaa", sum := "a6769a2b4d95535a5861a95add59434a07e2102fa78953b531a46768e830e25d", func := "sackung/sackunglaw04.AlarmPrices", spec := "alarmPrices", unfollowed := true, recurses := true, apart := false }
def AlarmPricesSaid : Prop := alarmPricesRow.holds Try.pinned (OpenSpec.ofChange alarmPricesSpec)

/-- ITS FALSE NEIGHBOUR: 'it returns false'. Refute it at one input. -/
def alarmPricesWrong : ChangeSpec := { name := "alarmPrices", fn := fun _ => fun
  | [d1, d2, d3] => { results := [.lit (.bool false)], args := [d1, d2, d3] }
  | _ => none }
def AlarmPricesWrongFalsely : Prop := alarmPricesRow.holds Try.pinned (OpenSpec.ofChange alarmPricesWrong)

/-- 'sackunglaw04.AlarmBests': WHATEVER THE INPUT: true; the input reads as it did. -/
def alarmBestsSpec : ChangeSpec := { name := "alarmBests", fn := fun _ => fun
  | [d1, d2] => { results := [.lit (.bool true)], args := [d1, d2] }
  | _ => none }
def alarmBestsRow : OpenClaim := { program := "ytnjommobapmgbaa", sum := "a6769a2b4d95535a5861a95add59434a07e2102fa78953b531a46768e830e25d", func := "sackung/sackunglaw04.AlarmBests", spec := "alarmBests", unfollowed := true, recurses := true, apart := false }
def AlarmBestsSaid : Prop := alarmBestsRow.holds Try.pinned (OpenSpec.ofChange alarmBestsSpec)

/-- ITS FALSE NEIGHBOUR: 'it returns false'. Refute it at one input. -/
def alarmBestsWrong : ChangeSpec := { name := "alarmBests", fn := fun _ => fun
  | [d1, d2] => { results := [.lit (.bool false)], args := [d1, d2] }
  | _ => none }
def AlarmBestsWrongFalsely : Prop := alarmBestsRow.holds Try.pinned (OpenSpec.ofChange alarmBestsWrong)

/-- 'sackunglaw04.AlarmLeast': WHATEVER THE INPUT: true; the input reads as it did. -/
def alarmLeastSpec : ChangeSpec := { name := "alarmLeast", fn := fun _ => fun
  | [d1, d2, d3] => { results := [.lit (.bool true)], args := [d1, d2, d3] }
  | _ => none }
def alarmLeastRow : OpenClaim := { program := "ytnjommobapmgbaa", sum := "a6769a2b4d95535a5861a95add59434a07e2102fa78953b531a46768e830e25d", func := "sackung/sackunglaw04.AlarmLeast", spec := "alarmLeast", unfollowed := true, recurses := true, apart := false }
def AlarmLeastSaid : Prop := alarmLeastRow.holds Try.pinned (OpenSpec.ofChange alarmLeastSpec)

/-- ITS FALSE NEIGHBOUR: 'it returns false'. Refute it at one input. -/
def alarmLeastWrong : ChangeSpec := { name := "alarmLeast", fn := fun _ => fun
  | [d1, d2, d3] => { results := [.lit (.bool false)], args := [d1, d2, d3] }
  | _ => none }
def AlarmLeastWrongFalsely : Prop := alarmLeastRow.holds Try.pinned (OpenSpec.ofChange alarmLeastWrong)

/-- 'sackunglaw04.AlarmSooner': WHATEVER THE INPUT: true; the input reads as it did. -/
def alarmSoonerSpec : ChangeSpec := { name := "alarmSooner", fn := fun _ => fun
  | [d1, d2, d3, d4, d5, d6] => { results := [.lit (.bool true)], args := [d1, d2, d3, d4, d5, d6] }
  | _ => none }
def alarmSoonerRow : OpenClaim := { program := "ytnjommobapmgbaa", sum := "a6769a2b4d95535a5861a95add59434a07e2102fa78953b531a46768e830e25d", func := "sackung/sackunglaw04.AlarmSooner", spec := "alarmSooner", unfollowed := true, recurses := true, apart := false }
def AlarmSoonerSaid : Prop := alarmSoonerRow.holds Try.pinned (OpenSpec.ofChange alarmSoonerSpec)

/-- ITS FALSE NEIGHBOUR: 'it returns false'. Refute it at one input. -/
def alarmSoonerWrong : ChangeSpec := { name := "alarmSooner", fn := fun _ => fun
  | [d1, d2, d3, d4, d5, d6] => { results := [.lit (.bool false)], args := [d1, d2, d3, d4, d5, d6] }
  | _ => none }
def AlarmSoonerWrongFalsely : Prop := alarmSoonerRow.holds Try.pinned (OpenSpec.ofChange alarmSoonerWrong)

/-- 'sackunglaw04.AlarmNames': WHATEVER THE INPUT: true; the input reads as it did. -/
def alarmNamesSpec : ChangeSpec := { name := "alarmNames", fn := fun _ => fun
  | [] => { results := [.lit (.bool true)], args := [] }
  | _ => none }
def alarmNamesRow : OpenClaim := { program := "ytnjommobapmgbaa", sum := "a6769a2b4d95535a5861a95add59434a07e2102fa78953b531a46768e830e25d", func := "sackung/sackunglaw04.AlarmNames", spec := "alarmNames", unfollowed := true, recurses := true, apart := false }
def AlarmNamesSaid : Prop := alarmNamesRow.holds Try.pinned (OpenSpec.ofChange alarmNamesSpec)

/-- ITS FALSE NEIGHBOUR: 'it returns false'. Refute it at one input. -/
def alarmNamesWrong : ChangeSpec := { name := "alarmNames", fn := fun _ => fun
  | [] => { results := [.lit (.bool false)], args := [] }
  | _ => none }
def AlarmNamesWrongFalsely : Prop := alarmNamesRow.holds Try.pinned (OpenSpec.ofChange alarmNamesWrong)

/- THE SECOND FORM. 'bulk': how many values and letters a reading holds, each counted each time it is reached (what is shared counts as often as it is met; a slice's spare places count too). A statement '..UptoSaid' is the law's where the arguments, and the package variables that the reading takes, are together of bulk at most 1048576: NARROWER than '..Said'. Prove '..Said' where nothing that the law and all that it calls make is longer than what came in: it says more and counts as full. Else prove '..UptoSaid'. A law counts once. -/
mutual
def uptoBulk {H : Type} : DataW H → Nat
  | .lit (.string bytes) => bytes.length + 1
  | .lit _ => 1
  | .nil => 1
  | .ptr d => uptoBulk d + 1
  | .slice elems spare => uptoBulkAll elems + uptoBulkAll spare + 1
  | .agg parts => uptoBulkAll parts + 1
  | .iface _ d => uptoBulk d + 1
  | .map entries => uptoBulkEntries entries + 1
  | .held _ => 1
def uptoBulkAll {H : Type} : List (DataW H) → Nat
  | [] => 0
  | d :: r => uptoBulk d + uptoBulkAll r
def uptoBulkEntries {H : Type} : List (Lit × DataW H) → Nat
  | [] => 0
  | x :: r => uptoBulkEntry x + uptoBulkEntries r
def uptoBulkEntry {H : Type} : Lit × DataW H → Nat
  | (.string bytes, d) => bytes.length + uptoBulk d + 1
  | (_, d) => uptoBulk d + 1
 end
def uptoSmall : (H : Type) → List (DataW H) → Bool := fun _ ds => decide (uptoBulkAll ds ≤ 1048576)
def OpenSpec.upto (s : _root_.Go.ChangeSpec) : _root_.Go.OpenSpec := { _root_.Go.OpenSpec.ofChange s with cond := some uptoSmall }

/-- 'sackunglaw04.AlarmSpells', WHERE WHAT IT READS IS OF BULK AT MOST 1048576: true; the input reads as it did. -/
def alarmSpellsUptoRow : OpenClaim := { program := "ytnjommobapmgbaa", sum := "a6769a2b4d95535a5861a95add59434a07e2102fa78953b531a46768e830e25d", func := "sackung/sackunglaw04.AlarmSpells", spec := "alarmSpells", unfollowed := true, recurses := true, apart := false, narrowed := true }
def AlarmSpellsUptoSaid : Prop := alarmSpellsUptoRow.holds Try.pinned (OpenSpec.upto alarmSpellsSpec)

/-- 'sackunglaw04.AlarmMore', WHERE WHAT IT READS IS OF BULK AT MOST 1048576: true; the input reads as it did. -/
def alarmMoreUptoRow : OpenClaim := { program := "ytnjommobapmgbaa", sum := "a6769a2b4d95535a5861a95add59434a07e2102fa78953b531a46768e830e25d", func := "sackung/sackunglaw04.AlarmMore", spec := "alarmMore", unfollowed := true, recurses := true, apart := false, narrowed := true }
def AlarmMoreUptoSaid : Prop := alarmMoreUptoRow.holds Try.pinned (OpenSpec.upto alarmMoreSpec)

/-- 'sackunglaw04.AlarmOn', WHERE WHAT IT READS IS OF BULK AT MOST 1048576: true; the input reads as it did. -/
def alarmOnUptoRow : OpenClaim := { program := "ytnjommobapmgbaa", sum := "a6769a2b4d95535a5861a95add59434a07e2102fa78953b531a46768e830e25d", func := "sackung/sackunglaw04.AlarmOn", spec := "alarmOn", unfollowed := true, recurses := true, apart := false, narrowed := true }
def AlarmOnUptoSaid : Prop := alarmOnUptoRow.holds Try.pinned (OpenSpec.upto alarmOnSpec)

/-- 'sackunglaw04.AlarmLone', WHERE WHAT IT READS IS OF BULK AT MOST 1048576: true; the input reads as it did. -/
def alarmLoneUptoRow : OpenClaim := { program := "ytnjommobapmgbaa", sum := "a6769a2b4d95535a5861a95add59434a07e2102fa78953b531a46768e830e25d", func := "sackung/sackunglaw04.AlarmLone", spec := "alarmLone", unfollowed := true, recurses := true, apart := false, narrowed := true }
def AlarmLoneUptoSaid : Prop := alarmLoneUptoRow.holds Try.pinned (OpenSpec.upto alarmLoneSpec)

/-- 'sackunglaw04.AlarmLevels', WHERE WHAT IT READS IS OF BULK AT MOST 1048576: true; the input reads as it did. -/
def alarmLevelsUptoRow : OpenClaim := { program := "ytnjommobapmgbaa", sum := "a6769a2b4d95535a5861a95add59434a07e2102fa78953b531a46768e830e25d", func := "sackung/sackunglaw04.AlarmLevels", spec := "alarmLevels", unfollowed := true, recurses := true, apart := false, narrowed := true }
def AlarmLevelsUptoSaid : Prop := alarmLevelsUptoRow.holds Try.pinned (OpenSpec.upto alarmLevelsSpec)

/-- 'sackunglaw04.AlarmFails', WHERE WHAT IT READS IS OF BULK AT MOST 1048576: true; the input reads as it did. -/
def alarmFailsUptoRow : OpenClaim := { program := "ytnjommobapmgbaa", sum := "a6769a2b4d95535a5861a95add59434a07e2102fa78953b531a46768e830e25d", func := "sackung/sackunglaw04.AlarmFails", spec := "alarmFails", unfollowed := true, recurses := true, apart := false, narrowed := true }
def AlarmFailsUptoSaid : Prop := alarmFailsUptoRow.holds Try.pinned (OpenSpec.upto alarmFailsSpec)

/-- 'sackunglaw04.AlarmSafe', WHERE WHAT IT READS IS OF BULK AT MOST 1048576: true; the input reads as it did. -/
def alarmSafeUptoRow : OpenClaim := { program := "ytnjommobapmgbaa", sum := "a6769a2b4d95535a5861a95add59434a07e2102fa78953b531a46768e830e25d", func := "sackung/sackunglaw04.AlarmSafe", spec := "alarmSafe", unfollowed := true, recurses := true, apart := false, narrowed := true }
def AlarmSafeUptoSaid : Prop := alarmSafeUptoRow.holds Try.pinned (OpenSpec.upto alarmSafeSpec)

/-- 'sackunglaw04.AlarmFinds', WHERE WHAT IT READS IS OF BULK AT MOST 1048576: true; the input reads as it did. -/
def alarmFindsUptoRow : OpenClaim := { program := "ytnjommobapmgbaa", sum := "a6769a2b4d95535a5861a95add59434a07e2102fa78953b531a46768e830e25d", func := "sackung/sackunglaw04.AlarmFinds", spec := "alarmFinds", unfollowed := true, recurses := true, apart := false, narrowed := true }
def AlarmFindsUptoSaid : Prop := alarmFindsUptoRow.holds Try.pinned (OpenSpec.upto alarmFindsSpec)

/-- 'sackunglaw04.AlarmEnds', WHERE WHAT IT READS IS OF BULK AT MOST 1048576: true; the input reads as it did. -/
def alarmEndsUptoRow : OpenClaim := { program := "ytnjommobapmgbaa", sum := "a6769a2b4d95535a5861a95add59434a07e2102fa78953b531a46768e830e25d", func := "sackung/sackunglaw04.AlarmEnds", spec := "alarmEnds", unfollowed := true, recurses := true, apart := false, narrowed := true }
def AlarmEndsUptoSaid : Prop := alarmEndsUptoRow.holds Try.pinned (OpenSpec.upto alarmEndsSpec)

/-- 'sackunglaw04.AlarmPrices', WHERE WHAT IT READS IS OF BULK AT MOST 1048576: true; the input reads as it did. -/
def alarmPricesUptoRow : OpenClaim := { program := "ytnjommobapmgbaa", sum := "a6769a2b4d95535a5861a95add59434a07e2102fa78953b531a46768e830e25d", func := "sackung/sackunglaw04.AlarmPrices", spec := "alarmPrices", unfollowed := true, recurses := true, apart := false, narrowed := true }
def AlarmPricesUptoSaid : Prop := alarmPricesUptoRow.holds Try.pinned (OpenSpec.upto alarmPricesSpec)

/-- 'sackunglaw04.AlarmBests', WHERE WHAT IT READS IS OF BULK AT MOST 1048576: true; the input reads as it did. -/
def alarmBestsUptoRow : OpenClaim := { program := "ytnjommobapmgbaa", sum := "a6769a2b4d95535a5861a95add59434a07e2102fa78953b531a46768e830e25d", func := "sackung/sackunglaw04.AlarmBests", spec := "alarmBests", unfollowed := true, recurses := true, apart := false, narrowed := true }
def AlarmBestsUptoSaid : Prop := alarmBestsUptoRow.holds Try.pinned (OpenSpec.upto alarmBestsSpec)

/-- 'sackunglaw04.AlarmLeast', WHERE WHAT IT READS IS OF BULK AT MOST 1048576: true; the input reads as it did. -/
def alarmLeastUptoRow : OpenClaim := { program := "ytnjommobapmgbaa", sum := "a6769a2b4d95535a5861a95add59434a07e2102fa78953b531a46768e830e25d", func := "sackung/sackunglaw04.AlarmLeast", spec := "alarmLeast", unfollowed := true, recurses := true, apart := false, narrowed := true }
def AlarmLeastUptoSaid : Prop := alarmLeastUptoRow.holds Try.pinned (OpenSpec.upto alarmLeastSpec)

/-- 'sackunglaw04.AlarmSooner', WHERE WHAT IT READS IS OF BULK AT MOST 1048576: true; the input reads as it did. -/
def alarmSoonerUptoRow : OpenClaim := { program := "ytnjommobapmgbaa", sum := "a6769a2b4d95535a5861a95add59434a07e2102fa78953b531a46768e830e25d", func := "sackung/sackunglaw04.AlarmSooner", spec := "alarmSooner", unfollowed := true, recurses := true, apart := false, narrowed := true }
def AlarmSoonerUptoSaid : Prop := alarmSoonerUptoRow.holds Try.pinned (OpenSpec.upto alarmSoonerSpec)

/-- 'sackunglaw04.AlarmNames', WHERE WHAT IT READS IS OF BULK AT MOST 1048576: true; the input reads as it did. -/
def alarmNamesUptoRow : OpenClaim := { program := "ytnjommobapmgbaa", sum := "a6769a2b4d95535a5861a95add59434a07e2102fa78953b531a46768e830e25d", func := "sackung/sackunglaw04.AlarmNames", spec := "alarmNames", unfollowed := true, recurses := true, apart := false, narrowed := true }
def AlarmNamesUptoSaid : Prop := alarmNamesUptoRow.holds Try.pinned (OpenSpec.upto alarmNamesSpec)

end Rows
end Go.Proofs.Ytnjommobapmgbaa
