/- The law AnnalsWrong holds: for any annals the call returns true, and each argument reads afterwards as before. No conditions. -/
import Derived.Test.YtemdkbogfafjgaaRows
import Derived.Test.YtemdkbogfafjgaaK4
import Derived.Test.YtemdkbogfafjgaaKd
namespace Go.Proofs.Ytemdkbogfafjgaa
open Go.ChangeShapes Go.WideShapes Go.ChangeAt Go.RowKit Go.Am

theorem Try.own : ownKnob Try.prog.godebug = none := by kernel_rfl
theorem Try.laidOut : laidOutB Try.prog = true := by kernel_rfl

set_option maxRecDepth 100000 in
theorem annalsWrong_lifted (os : Os) (started : os.Started) (H : Type) (enc : TypeId × Value → H) :
    ReturnsInHanded {} Try.checked os 13 .any (Rows.annalsWrongSpec.pre6 enc Try.prog Try.f13 Rows.annalsWrongRow.domain false) (Rows.annalsWrongSpec.post enc Try.prog Try.f13 false true false false) := by
  refine returnsInHanded_of_change (C := Try.checked) Try.own started (by kernel_rfl) Try.func13
    (ChangeSpec.witness6 (enc := enc) (C := Try.checked) false ⟨#[], #[.agg #[.slice none 0 0, .slice none 0 0, .int .i64 0]], []⟩ 8 (by kernel_rfl) (by kernel_rfl) (by kernel_rfl) (by kernel_rfl)) ?_
  intro W base args ds gs before hval0 hW hcnd _
  have hval : ∀ (j : Nat) t v, Try.f13.params[j]? = some t → args[j]? = some v → Value.okWide Try.prog W .any base t v := hval0
  have hW' := hW
  obtain ⟨p, q, hA0, hV, rfl, hfz, hnd⟩ := hW
  have hA : DataW.TrodAll enc Try.prog W 0 (fun _ => true) true Try.f13.params.toList args.toList ds p := hA0
  rw [Try.params13] at hA hval
  obtain ⟨v0, d0, rfl, rfl, h0⟩ := trodAll_one hA
  obtain ⟨rfl, rfl⟩ := trodVars_none hV
  obtain ⟨t, kt, r0⟩ := arg_struct Try.underlying25 rd25 (hval 0 25 v0 rfl rfl) h0
  refine (calls_law (vs := [v0]) (annalsWrong_c t kt) rfl (fun j a b => ?_)).mono fun e W' ⟨he, hb⟩ => ⟨.bool true, he, ?_⟩
  · match j, a with
    | 0, _ => exact r0
  · exact post_law (P := Try.prog) (f := Try.f13) (tb := 4) Try.laidOut (by rw [Try.params13]; simp only [List.forall_mem_cons, List.not_mem_nil, false_implies, implies_true, and_true]; exact ⟨by kernel_rfl, of_decide_eq_true (by kernel_rfl)⟩) hW' rfl rfl rfl rfl (by kernel_rfl) Try.underlying4 hb

theorem annalsWrong_holds : Rows.AnnalsWrongSaid :=
  OpenClaim.holds_of_wide 13 Try.f13 rfl rfl rfl rfl rfl rfl rfl ⟨rfl, rfl, rfl, rfl, rfl⟩ rfl rfl rfl rfl rfl (by kernel_rfl) Try.func13 (by kernel_rfl)
    (of_decide_eq_true (by kernel_rfl)) (by unfold Func.isWrapper; first | (rw [if_pos (by decide +kernel)]; kernel_rfl) | (rw [if_neg (by decide +kernel)]; exact ⟨rfl, rfl⟩))
    (fun os started H enc _ => annalsWrong_lifted os started H enc)

#print axioms annalsWrong_holds
end Go.Proofs.Ytemdkbogfafjgaa
