/-
  No cell of these rows narrows 'for every input' (looked for: loops, veiled, ifaces, maps, wideKeys, modest, calm, conditions, laid).
  DERIVED. THE GIVEN ROWS OF THIS SEAT. 11 by the template 'for every input the law returns true; each argument reads behind the call as it read before'; 0 by the template 'total and deterministic' (their statements: YtghlpjfpfjpddaaTotals.lean).
  GIVEN WITH THE SEED: the statements are not yours to turn. If you find one false, say at which input.
  Laid BY PROGRAM, IN A SANDBOX (cutbox-rows.mjs): the forced cells as the released guide's own fill.sh prints them over the translation 2a8c41df942a3fc2… (all of the seat's roots in one cut). By AI agents, Wed Nov 11 2026. No macro, syntax, notation, axiom, sorry.
-/
import Derived.Test.YtghlpjfpfjpddaaChecked
import GoSem.Claim
import GoSem.ClaimJoined
import GoSem.ClaimMapViews
import Derived.JoinedTies
import Derived.KernelRfl
namespace Go.Proofs.Ytghlpjfpfjpddaa
/- THE CELL 'sum', in the pinned program and in every row, IS THE sha256 OF THE DUMP (.gsa) THAT YtghlpjfpfjpddaaProg.lean LOADS. Nothing in Lean hashes anything: it is a label: what it is worth is what the hold of that sum in a sandbox is worth. -/
noncomputable def Try.pinned : Pinned := { name := "ytghlpjfpfjpddaa", sum := "2a8c41df942a3fc2ec5517784c657e20e41f418d114b31d7884d3e9c3d6f4f29", checked := Try.checked }
namespace Rows
def none {H : Type} : Left H := { results := [], args := [] }

/-- 'sackunglaw09.AwayFewest': WHATEVER THE INPUT: true; the input reads as it did. -/
def awayFewestSpec : ChangeSpec := { name := "awayFewest", fn := fun _ => fun
  | [d1, d2, d3, d4] => { results := [.lit (.bool true)], args := [d1, d2, d3, d4] }
  | _ => none }
def awayFewestRow : OpenClaim := { program := "ytghlpjfpfjpddaa", sum := "2a8c41df942a3fc2ec5517784c657e20e41f418d114b31d7884d3e9c3d6f4f29", func := "sackung/sackunglaw09.AwayFewest", spec := "awayFewest", unfollowed := true, recurses := true, plainKeys := false, apart := false }
def AwayFewestSaid : Prop := awayFewestRow.holds Try.pinned (OpenSpec.ofChange awayFewestSpec)

/-- ITS FALSE NEIGHBOUR: 'it returns false'. Refute it at one input. -/
def awayFewestWrong : ChangeSpec := { name := "awayFewest", fn := fun _ => fun
  | [d1, d2, d3, d4] => { results := [.lit (.bool false)], args := [d1, d2, d3, d4] }
  | _ => none }
def AwayFewestWrongFalsely : Prop := awayFewestRow.holds Try.pinned (OpenSpec.ofChange awayFewestWrong)

/-- 'sackunglaw09.AwayEasier': WHATEVER THE INPUT: true; the input reads as it did. -/
def awayEasierSpec : ChangeSpec := { name := "awayEasier", fn := fun _ => fun
  | [d1, d2, d3, d4, d5] => { results := [.lit (.bool true)], args := [d1, d2, d3, d4, d5] }
  | _ => none }
def awayEasierRow : OpenClaim := { program := "ytghlpjfpfjpddaa", sum := "2a8c41df942a3fc2ec5517784c657e20e41f418d114b31d7884d3e9c3d6f4f29", func := "sackung/sackunglaw09.AwayEasier", spec := "awayEasier", unfollowed := true, recurses := true, plainKeys := false, apart := false }
def AwayEasierSaid : Prop := awayEasierRow.holds Try.pinned (OpenSpec.ofChange awayEasierSpec)

/-- ITS FALSE NEIGHBOUR: 'it returns false'. Refute it at one input. -/
def awayEasierWrong : ChangeSpec := { name := "awayEasier", fn := fun _ => fun
  | [d1, d2, d3, d4, d5] => { results := [.lit (.bool false)], args := [d1, d2, d3, d4, d5] }
  | _ => none }
def AwayEasierWrongFalsely : Prop := awayEasierRow.holds Try.pinned (OpenSpec.ofChange awayEasierWrong)

/-- 'sackunglaw09.AwayTurned': WHATEVER THE INPUT: true; the input reads as it did. -/
def awayTurnedSpec : ChangeSpec := { name := "awayTurned", fn := fun _ => fun
  | [d1, d2, d3] => { results := [.lit (.bool true)], args := [d1, d2, d3] }
  | _ => none }
def awayTurnedRow : OpenClaim := { program := "ytghlpjfpfjpddaa", sum := "2a8c41df942a3fc2ec5517784c657e20e41f418d114b31d7884d3e9c3d6f4f29", func := "sackung/sackunglaw09.AwayTurned", spec := "awayTurned", unfollowed := true, recurses := true, plainKeys := false, apart := false }
def AwayTurnedSaid : Prop := awayTurnedRow.holds Try.pinned (OpenSpec.ofChange awayTurnedSpec)

/-- ITS FALSE NEIGHBOUR: 'it returns false'. Refute it at one input. -/
def awayTurnedWrong : ChangeSpec := { name := "awayTurned", fn := fun _ => fun
  | [d1, d2, d3] => { results := [.lit (.bool false)], args := [d1, d2, d3] }
  | _ => none }
def AwayTurnedWrongFalsely : Prop := awayTurnedRow.holds Try.pinned (OpenSpec.ofChange awayTurnedWrong)

/-- 'sackunglaw09.AwayPlans': WHATEVER THE INPUT: true; the input reads as it did. -/
def awayPlansSpec : ChangeSpec := { name := "awayPlans", fn := fun _ => fun
  | [d1, d2, d3, d4, d5] => { results := [.lit (.bool true)], args := [d1, d2, d3, d4, d5] }
  | _ => none }
def awayPlansRow : OpenClaim := { program := "ytghlpjfpfjpddaa", sum := "2a8c41df942a3fc2ec5517784c657e20e41f418d114b31d7884d3e9c3d6f4f29", func := "sackung/sackunglaw09.AwayPlans", spec := "awayPlans", unfollowed := true, recurses := true, plainKeys := false, apart := false }
def AwayPlansSaid : Prop := awayPlansRow.holds Try.pinned (OpenSpec.ofChange awayPlansSpec)

/-- ITS FALSE NEIGHBOUR: 'it returns false'. Refute it at one input. -/
def awayPlansWrong : ChangeSpec := { name := "awayPlans", fn := fun _ => fun
  | [d1, d2, d3, d4, d5] => { results := [.lit (.bool false)], args := [d1, d2, d3, d4, d5] }
  | _ => none }
def AwayPlansWrongFalsely : Prop := awayPlansRow.holds Try.pinned (OpenSpec.ofChange awayPlansWrong)

/-- 'sackunglaw09.AwayFails': WHATEVER THE INPUT: true; the input reads as it did. -/
def awayFailsSpec : ChangeSpec := { name := "awayFails", fn := fun _ => fun
  | [d1, d2] => { results := [.lit (.bool true)], args := [d1, d2] }
  | _ => none }
def awayFailsRow : OpenClaim := { program := "ytghlpjfpfjpddaa", sum := "2a8c41df942a3fc2ec5517784c657e20e41f418d114b31d7884d3e9c3d6f4f29", func := "sackung/sackunglaw09.AwayFails", spec := "awayFails", unfollowed := true, recurses := true, plainKeys := false, apart := false }
def AwayFailsSaid : Prop := awayFailsRow.holds Try.pinned (OpenSpec.ofChange awayFailsSpec)

/-- ITS FALSE NEIGHBOUR: 'it returns false'. Refute it at one input. -/
def awayFailsWrong : ChangeSpec := { name := "awayFails", fn := fun _ => fun
  | [d1, d2] => { results := [.lit (.bool false)], args := [d1, d2] }
  | _ => none }
def AwayFailsWrongFalsely : Prop := awayFailsRow.holds Try.pinned (OpenSpec.ofChange awayFailsWrong)

/-- 'sackunglaw09.AwayReturns': WHATEVER THE INPUT: true; the input reads as it did. -/
def awayReturnsSpec : ChangeSpec := { name := "awayReturns", fn := fun _ => fun
  | [d1, d2, d3, d4] => { results := [.lit (.bool true)], args := [d1, d2, d3, d4] }
  | _ => none }
def awayReturnsRow : OpenClaim := { program := "ytghlpjfpfjpddaa", sum := "2a8c41df942a3fc2ec5517784c657e20e41f418d114b31d7884d3e9c3d6f4f29", func := "sackung/sackunglaw09.AwayReturns", spec := "awayReturns", unfollowed := true, recurses := true, plainKeys := false, apart := false }
def AwayReturnsSaid : Prop := awayReturnsRow.holds Try.pinned (OpenSpec.ofChange awayReturnsSpec)

/-- ITS FALSE NEIGHBOUR: 'it returns false'. Refute it at one input. -/
def awayReturnsWrong : ChangeSpec := { name := "awayReturns", fn := fun _ => fun
  | [d1, d2, d3, d4] => { results := [.lit (.bool false)], args := [d1, d2, d3, d4] }
  | _ => none }
def AwayReturnsWrongFalsely : Prop := awayReturnsRow.holds Try.pinned (OpenSpec.ofChange awayReturnsWrong)

/-- 'sackunglaw09.AwayBack': WHATEVER THE INPUT: true; the input reads as it did. -/
def awayBackSpec : ChangeSpec := { name := "awayBack", fn := fun _ => fun
  | [d1, d2, d3, d4] => { results := [.lit (.bool true)], args := [d1, d2, d3, d4] }
  | _ => none }
def awayBackRow : OpenClaim := { program := "ytghlpjfpfjpddaa", sum := "2a8c41df942a3fc2ec5517784c657e20e41f418d114b31d7884d3e9c3d6f4f29", func := "sackung/sackunglaw09.AwayBack", spec := "awayBack", unfollowed := true, recurses := true, plainKeys := false, apart := false }
def AwayBackSaid : Prop := awayBackRow.holds Try.pinned (OpenSpec.ofChange awayBackSpec)

/-- ITS FALSE NEIGHBOUR: 'it returns false'. Refute it at one input. -/
def awayBackWrong : ChangeSpec := { name := "awayBack", fn := fun _ => fun
  | [d1, d2, d3, d4] => { results := [.lit (.bool false)], args := [d1, d2, d3, d4] }
  | _ => none }
def AwayBackWrongFalsely : Prop := awayBackRow.holds Try.pinned (OpenSpec.ofChange awayBackWrong)

/-- 'sackunglaw09.AwayAny': WHATEVER THE INPUT: true; the input reads as it did. -/
def awayAnySpec : ChangeSpec := { name := "awayAny", fn := fun _ => fun
  | [d1, d2, d3, d4] => { results := [.lit (.bool true)], args := [d1, d2, d3, d4] }
  | _ => none }
def awayAnyRow : OpenClaim := { program := "ytghlpjfpfjpddaa", sum := "2a8c41df942a3fc2ec5517784c657e20e41f418d114b31d7884d3e9c3d6f4f29", func := "sackung/sackunglaw09.AwayAny", spec := "awayAny", unfollowed := true, recurses := true, plainKeys := false, apart := false }
def AwayAnySaid : Prop := awayAnyRow.holds Try.pinned (OpenSpec.ofChange awayAnySpec)

/-- ITS FALSE NEIGHBOUR: 'it returns false'. Refute it at one input. -/
def awayAnyWrong : ChangeSpec := { name := "awayAny", fn := fun _ => fun
  | [d1, d2, d3, d4] => { results := [.lit (.bool false)], args := [d1, d2, d3, d4] }
  | _ => none }
def AwayAnyWrongFalsely : Prop := awayAnyRow.holds Try.pinned (OpenSpec.ofChange awayAnyWrong)

/-- 'sackunglaw09.AwayThere': WHATEVER THE INPUT: true; the input reads as it did. -/
def awayThereSpec : ChangeSpec := { name := "awayThere", fn := fun _ => fun
  | [d1, d2, d3, d4] => { results := [.lit (.bool true)], args := [d1, d2, d3, d4] }
  | _ => none }
def awayThereRow : OpenClaim := { program := "ytghlpjfpfjpddaa", sum := "2a8c41df942a3fc2ec5517784c657e20e41f418d114b31d7884d3e9c3d6f4f29", func := "sackung/sackunglaw09.AwayThere", spec := "awayThere", unfollowed := true, recurses := true, plainKeys := false, apart := false }
def AwayThereSaid : Prop := awayThereRow.holds Try.pinned (OpenSpec.ofChange awayThereSpec)

/-- ITS FALSE NEIGHBOUR: 'it returns false'. Refute it at one input. -/
def awayThereWrong : ChangeSpec := { name := "awayThere", fn := fun _ => fun
  | [d1, d2, d3, d4] => { results := [.lit (.bool false)], args := [d1, d2, d3, d4] }
  | _ => none }
def AwayThereWrongFalsely : Prop := awayThereRow.holds Try.pinned (OpenSpec.ofChange awayThereWrong)

/-- 'sackunglaw09.AwayOrders': WHATEVER THE INPUT: true; the input reads as it did. -/
def awayOrdersSpec : ChangeSpec := { name := "awayOrders", fn := fun _ => fun
  | [d] => { results := [.lit (.bool true)], args := [d] }
  | _ => none }
def awayOrdersRow : OpenClaim := { program := "ytghlpjfpfjpddaa", sum := "2a8c41df942a3fc2ec5517784c657e20e41f418d114b31d7884d3e9c3d6f4f29", func := "sackung/sackunglaw09.AwayOrders", spec := "awayOrders", unfollowed := true, recurses := true, plainKeys := false, apart := false }
def AwayOrdersSaid : Prop := awayOrdersRow.holds Try.pinned (OpenSpec.ofChange awayOrdersSpec)

/-- ITS FALSE NEIGHBOUR: 'it returns false'. Refute it at one input. -/
def awayOrdersWrong : ChangeSpec := { name := "awayOrders", fn := fun _ => fun
  | [d] => { results := [.lit (.bool false)], args := [d] }
  | _ => none }
def AwayOrdersWrongFalsely : Prop := awayOrdersRow.holds Try.pinned (OpenSpec.ofChange awayOrdersWrong)

/-- 'sackunglaw09.AwayNames': WHATEVER THE INPUT: true; the input reads as it did. -/
def awayNamesSpec : ChangeSpec := { name := "awayNames", fn := fun _ => fun
  | [] => { results := [.lit (.bool true)], args := [] }
  | _ => none }
def awayNamesRow : OpenClaim := { program := "ytghlpjfpfjpddaa", sum := "2a8c41df942a3fc2ec5517784c657e20e41f418d114b31d7884d3e9c3d6f4f29", func := "sackung/sackunglaw09.AwayNames", spec := "awayNames", unfollowed := true, recurses := true, plainKeys := false, apart := false }
def AwayNamesSaid : Prop := awayNamesRow.holds Try.pinned (OpenSpec.ofChange awayNamesSpec)

/-- ITS FALSE NEIGHBOUR: 'it returns false'. Refute it at one input. -/
def awayNamesWrong : ChangeSpec := { name := "awayNames", fn := fun _ => fun
  | [] => { results := [.lit (.bool false)], args := [] }
  | _ => none }
def AwayNamesWrongFalsely : Prop := awayNamesRow.holds Try.pinned (OpenSpec.ofChange awayNamesWrong)

/- THE SECOND FORM. 'bulk': how many values and letters a reading holds, each counted each time it is reached (what is shared counts as often as it is met; a slice's spare places count too). A statement '..UptoSaid' is the law's where the arguments, and the package variables that the reading takes, are together of bulk at most 1048576: NARROWER than '..Said'. Prove '..Said' where nothing that the law and all that it calls make is longer than what came in: it says more and counts as full. Else prove '..UptoSaid'. A law counts once. -/
mutual
def uptoBulk {H : Type} : DataW H → Nat
  | .lit (.string bytes) => bytes.length + 1
  | .lit _ => 1
  | .nil => 1
  | .ptr d => uptoBulk d + 1
  | .slice elems spare => uptoBulkAll elems + uptoBulkAll spare + 1
  | .agg parts => uptoBulkAll parts + 1
  | .iface _ d => uptoBulk d + 1
  | .map entries => uptoBulkEntries entries + 1
  | .held _ => 1
def uptoBulkAll {H : Type} : List (DataW H) → Nat
  | [] => 0
  | d :: r => uptoBulk d + uptoBulkAll r
def uptoBulkEntries {H : Type} : List (Lit × DataW H) → Nat
  | [] => 0
  | x :: r => uptoBulkEntry x + uptoBulkEntries r
def uptoBulkEntry {H : Type} : Lit × DataW H → Nat
  | (.string bytes, d) => bytes.length + uptoBulk d + 1
  | (_, d) => uptoBulk d + 1
 end
def uptoSmall : (H : Type) → List (DataW H) → Bool := fun _ ds => decide (uptoBulkAll ds ≤ 1048576)
def OpenSpec.upto (s : _root_.Go.ChangeSpec) : _root_.Go.OpenSpec := { _root_.Go.OpenSpec.ofChange s with cond := some uptoSmall }

/-- 'sackunglaw09.AwayFewest', WHERE WHAT IT READS IS OF BULK AT MOST 1048576: true; the input reads as it did. -/
def awayFewestUptoRow : OpenClaim := { program := "ytghlpjfpfjpddaa", sum := "2a8c41df942a3fc2ec5517784c657e20e41f418d114b31d7884d3e9c3d6f4f29", func := "sackung/sackunglaw09.AwayFewest", spec := "awayFewest", unfollowed := true, recurses := true, plainKeys := false, apart := false, narrowed := true }
def AwayFewestUptoSaid : Prop := awayFewestUptoRow.holds Try.pinned (OpenSpec.upto awayFewestSpec)

/-- 'sackunglaw09.AwayEasier', WHERE WHAT IT READS IS OF BULK AT MOST 1048576: true; the input reads as it did. -/
def awayEasierUptoRow : OpenClaim := { program := "ytghlpjfpfjpddaa", sum := "2a8c41df942a3fc2ec5517784c657e20e41f418d114b31d7884d3e9c3d6f4f29", func := "sackung/sackunglaw09.AwayEasier", spec := "awayEasier", unfollowed := true, recurses := true, plainKeys := false, apart := false, narrowed := true }
def AwayEasierUptoSaid : Prop := awayEasierUptoRow.holds Try.pinned (OpenSpec.upto awayEasierSpec)

/-- 'sackunglaw09.AwayTurned', WHERE WHAT IT READS IS OF BULK AT MOST 1048576: true; the input reads as it did. -/
def awayTurnedUptoRow : OpenClaim := { program := "ytghlpjfpfjpddaa", sum := "2a8c41df942a3fc2ec5517784c657e20e41f418d114b31d7884d3e9c3d6f4f29", func := "sackung/sackunglaw09.AwayTurned", spec := "awayTurned", unfollowed := true, recurses := true, plainKeys := false, apart := false, narrowed := true }
def AwayTurnedUptoSaid : Prop := awayTurnedUptoRow.holds Try.pinned (OpenSpec.upto awayTurnedSpec)

/-- 'sackunglaw09.AwayPlans', WHERE WHAT IT READS IS OF BULK AT MOST 1048576: true; the input reads as it did. -/
def awayPlansUptoRow : OpenClaim := { program := "ytghlpjfpfjpddaa", sum := "2a8c41df942a3fc2ec5517784c657e20e41f418d114b31d7884d3e9c3d6f4f29", func := "sackung/sackunglaw09.AwayPlans", spec := "awayPlans", unfollowed := true, recurses := true, plainKeys := false, apart := false, narrowed := true }
def AwayPlansUptoSaid : Prop := awayPlansUptoRow.holds Try.pinned (OpenSpec.upto awayPlansSpec)

/-- 'sackunglaw09.AwayFails', WHERE WHAT IT READS IS OF BULK AT MOST 1048576: true; the input reads as it did. -/
def awayFailsUptoRow : OpenClaim := { program := "ytghlpjfpfjpddaa", sum := "2a8c41df942a3fc2ec5517784c657e20e41f418d114b31d7884d3e9c3d6f4f29", func := "sackung/sackunglaw09.AwayFails", spec := "awayFails", unfollowed := true, recurses := true, plainKeys := false, apart := false, narrowed := true }
def AwayFailsUptoSaid : Prop := awayFailsUptoRow.holds Try.pinned (OpenSpec.upto awayFailsSpec)

/-- 'sackunglaw09.AwayReturns', WHERE WHAT IT READS IS OF BULK AT MOST 1048576: true; the input reads as it did. -/
def awayReturnsUptoRow : OpenClaim := { program := "ytghlpjfpfjpddaa", sum := "2a8c41df942a3fc2ec5517784c657e20e41f418d114b31d7884d3e9c3d6f4f29", func := "sackung/sackunglaw09.AwayReturns", spec := "awayReturns", unfollowed := true, recurses := true, plainKeys := false, apart := false, narrowed := true }
def AwayReturnsUptoSaid : Prop := awayReturnsUptoRow.holds Try.pinned (OpenSpec.upto awayReturnsSpec)

/-- 'sackunglaw09.AwayBack', WHERE WHAT IT READS IS OF BULK AT MOST 1048576: true; the input reads as it did. -/
def awayBackUptoRow : OpenClaim := { program := "ytghlpjfpfjpddaa", sum := "2a8c41df942a3fc2ec5517784c657e20e41f418d114b31d7884d3e9c3d6f4f29", func := "sackung/sackunglaw09.AwayBack", spec := "awayBack", unfollowed := true, recurses := true, plainKeys := false, apart := false, narrowed := true }
def AwayBackUptoSaid : Prop := awayBackUptoRow.holds Try.pinned (OpenSpec.upto awayBackSpec)

/-- 'sackunglaw09.AwayAny', WHERE WHAT IT READS IS OF BULK AT MOST 1048576: true; the input reads as it did. -/
def awayAnyUptoRow : OpenClaim := { program := "ytghlpjfpfjpddaa", sum := "2a8c41df942a3fc2ec5517784c657e20e41f418d114b31d7884d3e9c3d6f4f29", func := "sackung/sackunglaw09.AwayAny", spec := "awayAny", unfollowed := true, recurses := true, plainKeys := false, apart := false, narrowed := true }
def AwayAnyUptoSaid : Prop := awayAnyUptoRow.holds Try.pinned (OpenSpec.upto awayAnySpec)

/-- 'sackunglaw09.AwayThere', WHERE WHAT IT READS IS OF BULK AT MOST 1048576: true; the input reads as it did. -/
def awayThereUptoRow : OpenClaim := { program := "ytghlpjfpfjpddaa", sum := "2a8c41df942a3fc2ec5517784c657e20e41f418d114b31d7884d3e9c3d6f4f29", func := "sackung/sackunglaw09.AwayThere", spec := "awayThere", unfollowed := true, recurses := true, plainKeys := false, apart := false, narrowed := true }
def AwayThereUptoSaid : Prop := awayThereUptoRow.holds Try.pinned (OpenSpec.upto awayThereSpec)

/-- 'sackunglaw09.AwayOrders', WHERE WHAT IT READS IS OF BULK AT MOST 1048576: true; the input reads as it did. -/
def awayOrdersUptoRow : OpenClaim := { program := "ytghlpjfpfjpddaa", sum := "2a8c41df942a3fc2ec5517784c657e20e41f418d114b31d7884d3e9c3d6f4f29", func := "sackung/sackunglaw09.AwayOrders", spec := "awayOrders", unfollowed := true, recurses := true, plainKeys := false, apart := false, narrowed := true }
def AwayOrdersUptoSaid : Prop := awayOrdersUptoRow.holds Try.pinned (OpenSpec.upto awayOrdersSpec)

/-- 'sackunglaw09.AwayNames', WHERE WHAT IT READS IS OF BULK AT MOST 1048576: true; the input reads as it did. -/
def awayNamesUptoRow : OpenClaim := { program := "ytghlpjfpfjpddaa", sum := "2a8c41df942a3fc2ec5517784c657e20e41f418d114b31d7884d3e9c3d6f4f29", func := "sackung/sackunglaw09.AwayNames", spec := "awayNames", unfollowed := true, recurses := true, plainKeys := false, apart := false, narrowed := true }
def AwayNamesUptoSaid : Prop := awayNamesUptoRow.holds Try.pinned (OpenSpec.upto awayNamesSpec)

end Rows
end Go.Proofs.Ytghlpjfpfjpddaa
