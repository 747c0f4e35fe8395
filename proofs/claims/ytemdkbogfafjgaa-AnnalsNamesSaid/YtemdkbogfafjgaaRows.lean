/-
  No cell of these rows narrows 'for every input' (looked for: loops, veiled, ifaces, maps, wideKeys, modest, calm, conditions, laid).
  DERIVED. THE GIVEN ROWS OF THIS SEAT. 13 by the template 'for every input the law returns true; each argument reads behind the call as it read before'; 0 by the template 'total and deterministic' (their statements: YtemdkbogfafjgaaTotals.lean).
  GIVEN WITH THE SEED: the statements are not yours to turn. If you find one false, say at which input.
  Laid BY PROGRAM, IN A SANDBOX (cutbox-rows.mjs): the forced cells as the released guide's own fill.sh prints them over the translation 196cbb9248616d3e… (all of the seat's roots in one cut). By AI agents, Wed Nov 11 2026. No macro, syntax, notation, axiom, sorry.
-/
import Derived.Test.YtemdkbogfafjgaaChecked
import GoSem.Claim
import GoSem.ClaimJoined
import GoSem.ClaimMapViews
import Derived.JoinedTies
import Derived.KernelRfl
namespace Go.Proofs.Ytemdkbogfafjgaa
/- THE CELL 'sum', in the pinned program and in every row, IS THE sha256 OF THE DUMP (.gsa) THAT YtemdkbogfafjgaaProg.lean LOADS. Nothing in Lean hashes anything: it is a label: what it is worth is what the hold of that sum in a sandbox is worth. -/
noncomputable def Try.pinned : Pinned := { name := "ytemdkbogfafjgaa", sum := "196cbb9248616d3e06ef98407a44c76f0207f55c09ade31966208f80c6849303", checked := Try.checked }
namespace Rows
def none {H : Type} : Left H := { results := [], args := [] }

/-- 'sackunglaw05.AnnalsWays': WHATEVER THE INPUT: true; the input reads as it did. -/
def annalsWaysSpec : ChangeSpec := { name := "annalsWays", fn := fun _ => fun
  | [d] => { results := [.lit (.bool true)], args := [d] }
  | _ => none }
def annalsWaysRow : OpenClaim := { program := "ytemdkbogfafjgaa", sum := "196cbb9248616d3e06ef98407a44c76f0207f55c09ade31966208f80c6849303", func := "sackung/sackunglaw05.AnnalsWays", spec := "annalsWays", inPlace := ["slices.overlaps[[]int]"], unfollowed := true, recurses := true, plainKeys := false, apart := false }
def AnnalsWaysSaid : Prop := annalsWaysRow.holds Try.pinned (OpenSpec.ofChange annalsWaysSpec)

/-- ITS FALSE NEIGHBOUR: 'it returns false'. Refute it at one input. -/
def annalsWaysWrong : ChangeSpec := { name := "annalsWays", fn := fun _ => fun
  | [d] => { results := [.lit (.bool false)], args := [d] }
  | _ => none }
def AnnalsWaysWrongFalsely : Prop := annalsWaysRow.holds Try.pinned (OpenSpec.ofChange annalsWaysWrong)

/-- 'sackunglaw05.AnnalsSure': WHATEVER THE INPUT: true; the input reads as it did. -/
def annalsSureSpec : ChangeSpec := { name := "annalsSure", fn := fun _ => fun
  | [d1, d2, d3] => { results := [.lit (.bool true)], args := [d1, d2, d3] }
  | _ => none }
def annalsSureRow : OpenClaim := { program := "ytemdkbogfafjgaa", sum := "196cbb9248616d3e06ef98407a44c76f0207f55c09ade31966208f80c6849303", func := "sackung/sackunglaw05.AnnalsSure", spec := "annalsSure", inPlace := ["slices.overlaps[[]int]"], unfollowed := true, recurses := true, plainKeys := false, apart := false }
def AnnalsSureSaid : Prop := annalsSureRow.holds Try.pinned (OpenSpec.ofChange annalsSureSpec)

/-- ITS FALSE NEIGHBOUR: 'it returns false'. Refute it at one input. -/
def annalsSureWrong : ChangeSpec := { name := "annalsSure", fn := fun _ => fun
  | [d1, d2, d3] => { results := [.lit (.bool false)], args := [d1, d2, d3] }
  | _ => none }
def AnnalsSureWrongFalsely : Prop := annalsSureRow.holds Try.pinned (OpenSpec.ofChange annalsSureWrong)

/-- 'sackunglaw05.AnnalsEnds': WHATEVER THE INPUT: true; the input reads as it did. -/
def annalsEndsSpec : ChangeSpec := { name := "annalsEnds", fn := fun _ => fun
  | [d1, d2] => { results := [.lit (.bool true)], args := [d1, d2] }
  | _ => none }
def annalsEndsRow : OpenClaim := { program := "ytemdkbogfafjgaa", sum := "196cbb9248616d3e06ef98407a44c76f0207f55c09ade31966208f80c6849303", func := "sackung/sackunglaw05.AnnalsEnds", spec := "annalsEnds", inPlace := ["slices.overlaps[[]int]"], unfollowed := true, recurses := true, plainKeys := false, apart := false }
def AnnalsEndsSaid : Prop := annalsEndsRow.holds Try.pinned (OpenSpec.ofChange annalsEndsSpec)

/-- ITS FALSE NEIGHBOUR: 'it returns false'. Refute it at one input. -/
def annalsEndsWrong : ChangeSpec := { name := "annalsEnds", fn := fun _ => fun
  | [d1, d2] => { results := [.lit (.bool false)], args := [d1, d2] }
  | _ => none }
def AnnalsEndsWrongFalsely : Prop := annalsEndsRow.holds Try.pinned (OpenSpec.ofChange annalsEndsWrong)

/-- 'sackunglaw05.AnnalsEach': WHATEVER THE INPUT: true; the input reads as it did. -/
def annalsEachSpec : ChangeSpec := { name := "annalsEach", fn := fun _ => fun
  | [d1, d2, d3] => { results := [.lit (.bool true)], args := [d1, d2, d3] }
  | _ => none }
def annalsEachRow : OpenClaim := { program := "ytemdkbogfafjgaa", sum := "196cbb9248616d3e06ef98407a44c76f0207f55c09ade31966208f80c6849303", func := "sackung/sackunglaw05.AnnalsEach", spec := "annalsEach", inPlace := ["slices.overlaps[[]int]"], unfollowed := true, recurses := true, plainKeys := false, apart := false }
def AnnalsEachSaid : Prop := annalsEachRow.holds Try.pinned (OpenSpec.ofChange annalsEachSpec)

/-- ITS FALSE NEIGHBOUR: 'it returns false'. Refute it at one input. -/
def annalsEachWrong : ChangeSpec := { name := "annalsEach", fn := fun _ => fun
  | [d1, d2, d3] => { results := [.lit (.bool false)], args := [d1, d2, d3] }
  | _ => none }
def AnnalsEachWrongFalsely : Prop := annalsEachRow.holds Try.pinned (OpenSpec.ofChange annalsEachWrong)

/-- 'sackunglaw05.AnnalsMore': WHATEVER THE INPUT: true; the input reads as it did. -/
def annalsMoreSpec : ChangeSpec := { name := "annalsMore", fn := fun _ => fun
  | [d1, d2, d3, d4] => { results := [.lit (.bool true)], args := [d1, d2, d3, d4] }
  | _ => none }
def annalsMoreRow : OpenClaim := { program := "ytemdkbogfafjgaa", sum := "196cbb9248616d3e06ef98407a44c76f0207f55c09ade31966208f80c6849303", func := "sackung/sackunglaw05.AnnalsMore", spec := "annalsMore", inPlace := ["slices.overlaps[[]int]"], unfollowed := true, recurses := true, plainKeys := false, apart := false }
def AnnalsMoreSaid : Prop := annalsMoreRow.holds Try.pinned (OpenSpec.ofChange annalsMoreSpec)

/-- ITS FALSE NEIGHBOUR: 'it returns false'. Refute it at one input. -/
def annalsMoreWrong : ChangeSpec := { name := "annalsMore", fn := fun _ => fun
  | [d1, d2, d3, d4] => { results := [.lit (.bool false)], args := [d1, d2, d3, d4] }
  | _ => none }
def AnnalsMoreWrongFalsely : Prop := annalsMoreRow.holds Try.pinned (OpenSpec.ofChange annalsMoreWrong)

/-- 'sackunglaw05.AnnalsOrder': WHATEVER THE INPUT: true; the input reads as it did. -/
def annalsOrderSpec : ChangeSpec := { name := "annalsOrder", fn := fun _ => fun
  | [d1, d2, d3, d4] => { results := [.lit (.bool true)], args := [d1, d2, d3, d4] }
  | _ => none }
def annalsOrderRow : OpenClaim := { program := "ytemdkbogfafjgaa", sum := "196cbb9248616d3e06ef98407a44c76f0207f55c09ade31966208f80c6849303", func := "sackung/sackunglaw05.AnnalsOrder", spec := "annalsOrder", inPlace := ["slices.overlaps[[]int]"], unfollowed := true, recurses := true, plainKeys := false, apart := false }
def AnnalsOrderSaid : Prop := annalsOrderRow.holds Try.pinned (OpenSpec.ofChange annalsOrderSpec)

/-- ITS FALSE NEIGHBOUR: 'it returns false'. Refute it at one input. -/
def annalsOrderWrong : ChangeSpec := { name := "annalsOrder", fn := fun _ => fun
  | [d1, d2, d3, d4] => { results := [.lit (.bool false)], args := [d1, d2, d3, d4] }
  | _ => none }
def AnnalsOrderWrongFalsely : Prop := annalsOrderRow.holds Try.pinned (OpenSpec.ofChange annalsOrderWrong)

/-- 'sackunglaw05.AnnalsSlopes': WHATEVER THE INPUT: true; the input reads as it did. -/
def annalsSlopesSpec : ChangeSpec := { name := "annalsSlopes", fn := fun _ => fun
  | [d1, d2, d3] => { results := [.lit (.bool true)], args := [d1, d2, d3] }
  | _ => none }
def annalsSlopesRow : OpenClaim := { program := "ytemdkbogfafjgaa", sum := "196cbb9248616d3e06ef98407a44c76f0207f55c09ade31966208f80c6849303", func := "sackung/sackunglaw05.AnnalsSlopes", spec := "annalsSlopes", inPlace := ["slices.overlaps[[]int]"], unfollowed := true, recurses := true, plainKeys := false, apart := false }
def AnnalsSlopesSaid : Prop := annalsSlopesRow.holds Try.pinned (OpenSpec.ofChange annalsSlopesSpec)

/-- ITS FALSE NEIGHBOUR: 'it returns false'. Refute it at one input. -/
def annalsSlopesWrong : ChangeSpec := { name := "annalsSlopes", fn := fun _ => fun
  | [d1, d2, d3] => { results := [.lit (.bool false)], args := [d1, d2, d3] }
  | _ => none }
def AnnalsSlopesWrongFalsely : Prop := annalsSlopesRow.holds Try.pinned (OpenSpec.ofChange annalsSlopesWrong)

/-- 'sackunglaw05.AnnalsWithout': WHATEVER THE INPUT: true; the input reads as it did. -/
def annalsWithoutSpec : ChangeSpec := { name := "annalsWithout", fn := fun _ => fun
  | [d1, d2] => { results := [.lit (.bool true)], args := [d1, d2] }
  | _ => none }
def annalsWithoutRow : OpenClaim := { program := "ytemdkbogfafjgaa", sum := "196cbb9248616d3e06ef98407a44c76f0207f55c09ade31966208f80c6849303", func := "sackung/sackunglaw05.AnnalsWithout", spec := "annalsWithout", inPlace := ["slices.overlaps[[]int]"], unfollowed := true, recurses := true, plainKeys := false, apart := false }
def AnnalsWithoutSaid : Prop := annalsWithoutRow.holds Try.pinned (OpenSpec.ofChange annalsWithoutSpec)

/-- ITS FALSE NEIGHBOUR: 'it returns false'. Refute it at one input. -/
def annalsWithoutWrong : ChangeSpec := { name := "annalsWithout", fn := fun _ => fun
  | [d1, d2] => { results := [.lit (.bool false)], args := [d1, d2] }
  | _ => none }
def AnnalsWithoutWrongFalsely : Prop := annalsWithoutRow.holds Try.pinned (OpenSpec.ofChange annalsWithoutWrong)

/-- 'sackunglaw05.AnnalsTruth': WHATEVER THE INPUT: true; the input reads as it did. -/
def annalsTruthSpec : ChangeSpec := { name := "annalsTruth", fn := fun _ => fun
  | [d1, d2, d3, d4] => { results := [.lit (.bool true)], args := [d1, d2, d3, d4] }
  | _ => none }
def annalsTruthRow : OpenClaim := { program := "ytemdkbogfafjgaa", sum := "196cbb9248616d3e06ef98407a44c76f0207f55c09ade31966208f80c6849303", func := "sackung/sackunglaw05.AnnalsTruth", spec := "annalsTruth", inPlace := ["slices.overlaps[[]int]"], unfollowed := true, recurses := true, plainKeys := false, apart := false }
def AnnalsTruthSaid : Prop := annalsTruthRow.holds Try.pinned (OpenSpec.ofChange annalsTruthSpec)

/-- ITS FALSE NEIGHBOUR: 'it returns false'. Refute it at one input. -/
def annalsTruthWrong : ChangeSpec := { name := "annalsTruth", fn := fun _ => fun
  | [d1, d2, d3, d4] => { results := [.lit (.bool false)], args := [d1, d2, d3, d4] }
  | _ => none }
def AnnalsTruthWrongFalsely : Prop := annalsTruthRow.holds Try.pinned (OpenSpec.ofChange annalsTruthWrong)

/-- 'sackunglaw05.AnnalsFinds': WHATEVER THE INPUT: true; the input reads as it did. -/
def annalsFindsSpec : ChangeSpec := { name := "annalsFinds", fn := fun _ => fun
  | [d1, d2, d3] => { results := [.lit (.bool true)], args := [d1, d2, d3] }
  | _ => none }
def annalsFindsRow : OpenClaim := { program := "ytemdkbogfafjgaa", sum := "196cbb9248616d3e06ef98407a44c76f0207f55c09ade31966208f80c6849303", func := "sackung/sackunglaw05.AnnalsFinds", spec := "annalsFinds", inPlace := ["slices.overlaps[[]int]"], unfollowed := true, recurses := true, plainKeys := false, apart := false }
def AnnalsFindsSaid : Prop := annalsFindsRow.holds Try.pinned (OpenSpec.ofChange annalsFindsSpec)

/-- ITS FALSE NEIGHBOUR: 'it returns false'. Refute it at one input. -/
def annalsFindsWrong : ChangeSpec := { name := "annalsFinds", fn := fun _ => fun
  | [d1, d2, d3] => { results := [.lit (.bool false)], args := [d1, d2, d3] }
  | _ => none }
def AnnalsFindsWrongFalsely : Prop := annalsFindsRow.holds Try.pinned (OpenSpec.ofChange annalsFindsWrong)

/-- 'sackunglaw05.AnnalsWrong': WHATEVER THE INPUT: true; the input reads as it did. -/
def annalsWrongSpec : ChangeSpec := { name := "annalsWrong", fn := fun _ => fun
  | [d] => { results := [.lit (.bool true)], args := [d] }
  | _ => none }
def annalsWrongRow : OpenClaim := { program := "ytemdkbogfafjgaa", sum := "196cbb9248616d3e06ef98407a44c76f0207f55c09ade31966208f80c6849303", func := "sackung/sackunglaw05.AnnalsWrong", spec := "annalsWrong", inPlace := ["slices.overlaps[[]int]"], unfollowed := true, recurses := true, plainKeys := false, apart := false }
def AnnalsWrongSaid : Prop := annalsWrongRow.holds Try.pinned (OpenSpec.ofChange annalsWrongSpec)

/-- ITS FALSE NEIGHBOUR: 'it returns false'. Refute it at one input. -/
def annalsWrongWrong : ChangeSpec := { name := "annalsWrong", fn := fun _ => fun
  | [d] => { results := [.lit (.bool false)], args := [d] }
  | _ => none }
def AnnalsWrongWrongFalsely : Prop := annalsWrongRow.holds Try.pinned (OpenSpec.ofChange annalsWrongWrong)

/-- 'sackunglaw05.AnnalsLeast': WHATEVER THE INPUT: true; the input reads as it did. -/
def annalsLeastSpec : ChangeSpec := { name := "annalsLeast", fn := fun _ => fun
  | [d1, d2, d3] => { results := [.lit (.bool true)], args := [d1, d2, d3] }
  | _ => none }
def annalsLeastRow : OpenClaim := { program := "ytemdkbogfafjgaa", sum := "196cbb9248616d3e06ef98407a44c76f0207f55c09ade31966208f80c6849303", func := "sackung/sackunglaw05.AnnalsLeast", spec := "annalsLeast", inPlace := ["slices.overlaps[[]int]"], unfollowed := true, recurses := true, plainKeys := false, apart := false }
def AnnalsLeastSaid : Prop := annalsLeastRow.holds Try.pinned (OpenSpec.ofChange annalsLeastSpec)

/-- ITS FALSE NEIGHBOUR: 'it returns false'. Refute it at one input. -/
def annalsLeastWrong : ChangeSpec := { name := "annalsLeast", fn := fun _ => fun
  | [d1, d2, d3] => { results := [.lit (.bool false)], args := [d1, d2, d3] }
  | _ => none }
def AnnalsLeastWrongFalsely : Prop := annalsLeastRow.holds Try.pinned (OpenSpec.ofChange annalsLeastWrong)

/-- 'sackunglaw05.AnnalsNames': WHATEVER THE INPUT: true; the input reads as it did. -/
def annalsNamesSpec : ChangeSpec := { name := "annalsNames", fn := fun _ => fun
  | [] => { results := [.lit (.bool true)], args := [] }
  | _ => none }
def annalsNamesRow : OpenClaim := { program := "ytemdkbogfafjgaa", sum := "196cbb9248616d3e06ef98407a44c76f0207f55c09ade31966208f80c6849303", func := "sackung/sackunglaw05.AnnalsNames", spec := "annalsNames", inPlace := ["slices.overlaps[[]int]"], unfollowed := true, recurses := true, plainKeys := false, apart := false }
def AnnalsNamesSaid : Prop := annalsNamesRow.holds Try.pinned (OpenSpec.ofChange annalsNamesSpec)

/-- ITS FALSE NEIGHBOUR: 'it returns false'. Refute it at one input. -/
def annalsNamesWrong : ChangeSpec := { name := "annalsNames", fn := fun _ => fun
  | [] => { results := [.lit (.bool false)], args := [] }
  | _ => none }
def AnnalsNamesWrongFalsely : Prop := annalsNamesRow.holds Try.pinned (OpenSpec.ofChange annalsNamesWrong)

/- THE SECOND FORM. 'bulk': how many values and letters a reading holds, each counted each time it is reached (what is shared counts as often as it is met; a slice's spare places count too). A statement '..UptoSaid' is the law's where the arguments, and the package variables that the reading takes, are together of bulk at most 1048576: NARROWER than '..Said'. Prove '..Said' where nothing that the law and all that it calls make is longer than what came in: it says more and counts as full. Else prove '..UptoSaid'. A law counts once. -/
mutual
def uptoBulk {H : Type} : DataW H → Nat
  | .lit (.string bytes) => bytes.length + 1
  | .lit _ => 1
  | .nil => 1
  | .ptr d => uptoBulk d + 1
  | .slice elems spare => uptoBulkAll elems + uptoBulkAll spare + 1
  | .agg parts => uptoBulkAll parts + 1
  | .iface _ d => uptoBulk d + 1
  | .map entries => uptoBulkEntries entries + 1
  | .held _ => 1
def uptoBulkAll {H : Type} : List (DataW H) → Nat
  | [] => 0
  | d :: r => uptoBulk d + uptoBulkAll r
def uptoBulkEntries {H : Type} : List (Lit × DataW H) → Nat
  | [] => 0
  | x :: r => uptoBulkEntry x + uptoBulkEntries r
def uptoBulkEntry {H : Type} : Lit × DataW H → Nat
  | (.string bytes, d) => bytes.length + uptoBulk d + 1
  | (_, d) => uptoBulk d + 1
 end
def uptoSmall : (H : Type) → List (DataW H) → Bool := fun _ ds => decide (uptoBulkAll ds ≤ 1048576)
def OpenSpec.upto (s : _root_.Go.ChangeSpec) : _root_.Go.OpenSpec := { _root_.Go.OpenSpec.ofChange s with cond := some uptoSmall }

/-- 'sackunglaw05.AnnalsWays', WHERE WHAT IT READS IS OF BULK AT MOST 1048576: true; the input reads as it did. -/
def annalsWaysUptoRow : OpenClaim := { program := "ytemdkbogfafjgaa", sum := "196cbb9248616d3e06ef98407a44c76f0207f55c09ade31966208f80c6849303", func := "sackung/sackunglaw05.AnnalsWays", spec := "annalsWays", inPlace := ["slices.overlaps[[]int]"], unfollowed := true, recurses := true, plainKeys := false, apart := false, narrowed := true }
def AnnalsWaysUptoSaid : Prop := annalsWaysUptoRow.holds Try.pinned (OpenSpec.upto annalsWaysSpec)

/-- 'sackunglaw05.AnnalsSure', WHERE WHAT IT READS IS OF BULK AT MOST 1048576: true; the input reads as it did. -/
def annalsSureUptoRow : OpenClaim := { program := "ytemdkbogfafjgaa", sum := "196cbb9248616d3e06ef98407a44c76f0207f55c09ade31966208f80c6849303", func := "sackung/sackunglaw05.AnnalsSure", spec := "annalsSure", inPlace := ["slices.overlaps[[]int]"], unfollowed := true, recurses := true, plainKeys := false, apart := false, narrowed := true }
def AnnalsSureUptoSaid : Prop := annalsSureUptoRow.holds Try.pinned (OpenSpec.upto annalsSureSpec)

/-- 'sackunglaw05.AnnalsEnds', WHERE WHAT IT READS IS OF BULK AT MOST 1048576: true; the input reads as it did. -/
def annalsEndsUptoRow : OpenClaim := { program := "ytemdkbogfafjgaa", sum := "196cbb9248616d3e06ef98407a44c76f0207f55c09ade31966208f80c6849303", func := "sackung/sackunglaw05.AnnalsEnds", spec := "annalsEnds", inPlace := ["slices.overlaps[[]int]"], unfollowed := true, recurses := true, plainKeys := false, apart := false, narrowed := true }
def AnnalsEndsUptoSaid : Prop := annalsEndsUptoRow.holds Try.pinned (OpenSpec.upto annalsEndsSpec)

/-- 'sackunglaw05.AnnalsEach', WHERE WHAT IT READS IS OF BULK AT MOST 1048576: true; the input reads as it did. -/
def annalsEachUptoRow : OpenClaim := { program := "ytemdkbogfafjgaa", sum := "196cbb9248616d3e06ef98407a44c76f0207f55c09ade31966208f80c6849303", func := "sackung/sackunglaw05.AnnalsEach", spec := "annalsEach", inPlace := ["slices.overlaps[[]int]"], unfollowed := true, recurses := true, plainKeys := false, apart := false, narrowed := true }
def AnnalsEachUptoSaid : Prop := annalsEachUptoRow.holds Try.pinned (OpenSpec.upto annalsEachSpec)

/-- 'sackunglaw05.AnnalsMore', WHERE WHAT IT READS IS OF BULK AT MOST 1048576: true; the input reads as it did. -/
def annalsMoreUptoRow : OpenClaim := { program := "ytemdkbogfafjgaa", sum := "196cbb9248616d3e06ef98407a44c76f0207f55c09ade31966208f80c6849303", func := "sackung/sackunglaw05.AnnalsMore", spec := "annalsMore", inPlace := ["slices.overlaps[[]int]"], unfollowed := true, recurses := true, plainKeys := false, apart := false, narrowed := true }
def AnnalsMoreUptoSaid : Prop := annalsMoreUptoRow.holds Try.pinned (OpenSpec.upto annalsMoreSpec)

/-- 'sackunglaw05.AnnalsOrder', WHERE WHAT IT READS IS OF BULK AT MOST 1048576: true; the input reads as it did. -/
def annalsOrderUptoRow : OpenClaim := { program := "ytemdkbogfafjgaa", sum := "196cbb9248616d3e06ef98407a44c76f0207f55c09ade31966208f80c6849303", func := "sackung/sackunglaw05.AnnalsOrder", spec := "annalsOrder", inPlace := ["slices.overlaps[[]int]"], unfollowed := true, recurses := true, plainKeys := false, apart := false, narrowed := true }
def AnnalsOrderUptoSaid : Prop := annalsOrderUptoRow.holds Try.pinned (OpenSpec.upto annalsOrderSpec)

/-- 'sackunglaw05.AnnalsSlopes', WHERE WHAT IT READS IS OF BULK AT MOST 1048576: true; the input reads as it did. -/
def annalsSlopesUptoRow : OpenClaim := { program := "ytemdkbogfafjgaa", sum := "196cbb9248616d3e06ef98407a44c76f0207f55c09ade31966208f80c6849303", func := "sackung/sackunglaw05.AnnalsSlopes", spec := "annalsSlopes", inPlace := ["slices.overlaps[[]int]"], unfollowed := true, recurses := true, plainKeys := false, apart := false, narrowed := true }
def AnnalsSlopesUptoSaid : Prop := annalsSlopesUptoRow.holds Try.pinned (OpenSpec.upto annalsSlopesSpec)

/-- 'sackunglaw05.AnnalsWithout', WHERE WHAT IT READS IS OF BULK AT MOST 1048576: true; the input reads as it did. -/
def annalsWithoutUptoRow : OpenClaim := { program := "ytemdkbogfafjgaa", sum := "196cbb9248616d3e06ef98407a44c76f0207f55c09ade31966208f80c6849303", func := "sackung/sackunglaw05.AnnalsWithout", spec := "annalsWithout", inPlace := ["slices.overlaps[[]int]"], unfollowed := true, recurses := true, plainKeys := false, apart := false, narrowed := true }
def AnnalsWithoutUptoSaid : Prop := annalsWithoutUptoRow.holds Try.pinned (OpenSpec.upto annalsWithoutSpec)

/-- 'sackunglaw05.AnnalsTruth', WHERE WHAT IT READS IS OF BULK AT MOST 1048576: true; the input reads as it did. -/
def annalsTruthUptoRow : OpenClaim := { program := "ytemdkbogfafjgaa", sum := "196cbb9248616d3e06ef98407a44c76f0207f55c09ade31966208f80c6849303", func := "sackung/sackunglaw05.AnnalsTruth", spec := "annalsTruth", inPlace := ["slices.overlaps[[]int]"], unfollowed := true, recurses := true, plainKeys := false, apart := false, narrowed := true }
def AnnalsTruthUptoSaid : Prop := annalsTruthUptoRow.holds Try.pinned (OpenSpec.upto annalsTruthSpec)

/-- 'sackunglaw05.AnnalsFinds', WHERE WHAT IT READS IS OF BULK AT MOST 1048576: true; the input reads as it did. -/
def annalsFindsUptoRow : OpenClaim := { program := "ytemdkbogfafjgaa", sum := "196cbb9248616d3e06ef98407a44c76f0207f55c09ade31966208f80c6849303", func := "sackung/sackunglaw05.AnnalsFinds", spec := "annalsFinds", inPlace := ["slices.overlaps[[]int]"], unfollowed := true, recurses := true, plainKeys := false, apart := false, narrowed := true }
def AnnalsFindsUptoSaid : Prop := annalsFindsUptoRow.holds Try.pinned (OpenSpec.upto annalsFindsSpec)

/-- 'sackunglaw05.AnnalsWrong', WHERE WHAT IT READS IS OF BULK AT MOST 1048576: true; the input reads as it did. -/
def annalsWrongUptoRow : OpenClaim := { program := "ytemdkbogfafjgaa", sum := "196cbb9248616d3e06ef98407a44c76f0207f55c09ade31966208f80c6849303", func := "sackung/sackunglaw05.AnnalsWrong", spec := "annalsWrong", inPlace := ["slices.overlaps[[]int]"], unfollowed := true, recurses := true, plainKeys := false, apart := false, narrowed := true }
def AnnalsWrongUptoSaid : Prop := annalsWrongUptoRow.holds Try.pinned (OpenSpec.upto annalsWrongSpec)

/-- 'sackunglaw05.AnnalsLeast', WHERE WHAT IT READS IS OF BULK AT MOST 1048576: true; the input reads as it did. -/
def annalsLeastUptoRow : OpenClaim := { program := "ytemdkbogfafjgaa", sum := "196cbb9248616d3e06ef98407a44c76f0207f55c09ade31966208f80c6849303", func := "sackung/sackunglaw05.AnnalsLeast", spec := "annalsLeast", inPlace := ["slices.overlaps[[]int]"], unfollowed := true, recurses := true, plainKeys := false, apart := false, narrowed := true }
def AnnalsLeastUptoSaid : Prop := annalsLeastUptoRow.holds Try.pinned (OpenSpec.upto annalsLeastSpec)

/-- 'sackunglaw05.AnnalsNames', WHERE WHAT IT READS IS OF BULK AT MOST 1048576: true; the input reads as it did. -/
def annalsNamesUptoRow : OpenClaim := { program := "ytemdkbogfafjgaa", sum := "196cbb9248616d3e06ef98407a44c76f0207f55c09ade31966208f80c6849303", func := "sackung/sackunglaw05.AnnalsNames", spec := "annalsNames", inPlace := ["slices.overlaps[[]int]"], unfollowed := true, recurses := true, plainKeys := false, apart := false, narrowed := true }
def AnnalsNamesUptoSaid : Prop := annalsNamesUptoRow.holds Try.pinned (OpenSpec.upto annalsNamesSpec)

end Rows
end Go.Proofs.Ytemdkbogfafjgaa
