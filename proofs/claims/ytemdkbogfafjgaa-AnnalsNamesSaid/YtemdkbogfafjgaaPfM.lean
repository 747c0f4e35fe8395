/- The law AnnalsNames holds: the examples and errors are as said: the call returns true, and each argument reads afterwards as before. No conditions. -/
import Derived.Test.YtemdkbogfafjgaaRows
import Derived.Test.YtemdkbogfafjgaaN4
import Derived.Test.YtemdkbogfafjgaaNc
set_option linter.unusedVariables false -- all
set_option linter.unusedSimpArgs false
namespace Go.Proofs.Ytemdkbogfafjgaa
open Go.ChangeShapes Go.WideShapes Go.ChangeAt Go.RowKit Go.Am

theorem Try.own : ownKnob Try.prog.godebug = none := by kernel_rfl
theorem Try.laidOut : laidOutB Try.prog = true := by kernel_rfl

set_option maxRecDepth 100000 in
theorem annalsNames_lifted (os : Os) (started : os.Started) (H : Type) (enc : TypeId × Value → H) :
    ReturnsInHanded {} Try.checked os 15 .any (Rows.annalsNamesSpec.pre6 enc Try.prog Try.f15 Rows.annalsNamesRow.domain false) (Rows.annalsNamesSpec.post enc Try.prog Try.f15 false true false false) := by
  refine returnsInHanded_of_change (C := Try.checked) Try.own started (by kernel_rfl) Try.func15
    (ChangeSpec.witness6 (enc := enc) (C := Try.checked) false ⟨#[], #[], []⟩ 8 (by kernel_rfl) (by kernel_rfl) (by kernel_rfl) (by kernel_rfl)) ?_
  intro W base args ds gs before hval0 hW hcnd _
  have hval : ∀ (j : Nat) t v, Try.f15.params[j]? = some t → args[j]? = some v → Value.okWide Try.prog W .any base t v := hval0
  have hW' := hW
  obtain ⟨p, q, hA0, hV, rfl, hfz, hnd⟩ := hW
  have hA : DataW.TrodAll enc Try.prog W 0 (fun _ => true) true Try.f15.params.toList args.toList ds p := hA0
  rw [Try.params15] at hA hval
  obtain ⟨rfl, rfl, rfl⟩ := trodAll_none hA
  obtain ⟨rfl, rfl⟩ := trodVars_none hV
  refine (calls_law (vs := []) (names_c) rfl (fun j a b => ?_)).mono fun e W' ⟨he, hb⟩ => ⟨.bool true, he, ?_⟩
  · exact absurd a (by simp)
  · exact post_law (P := Try.prog) (f := Try.f15) (tb := 4) Try.laidOut (by rw [Try.params15]; simp) hW' rfl rfl rfl rfl (by kernel_rfl) Try.underlying4 hb

theorem annalsNames_holds : Rows.AnnalsNamesSaid :=
  OpenClaim.holds_of_wide 15 Try.f15 rfl rfl rfl rfl rfl rfl rfl ⟨rfl, rfl, rfl, rfl, rfl⟩ rfl rfl rfl rfl rfl (by kernel_rfl) Try.func15 (by kernel_rfl)
    (of_decide_eq_true (by kernel_rfl)) (by unfold Func.isWrapper; first | (rw [if_pos (by decide +kernel)]; kernel_rfl) | (rw [if_neg (by decide +kernel)]; exact ⟨rfl, rfl⟩))
    (fun os started H enc _ => annalsNames_lifted os started H enc)

#print axioms annalsNames_holds
end Go.Proofs.Ytemdkbogfafjgaa
