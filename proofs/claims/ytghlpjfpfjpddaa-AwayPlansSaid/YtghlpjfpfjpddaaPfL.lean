/- The law AwayPlans holds: for any town, plan and numbers the call returns true, and each argument reads afterwards as before. No conditions. -/
import Derived.Test.YtghlpjfpfjpddaaRows
import Derived.Test.YtghlpjfpfjpddaaK4
import Derived.Test.YtghlpjfpfjpddaaK9
import Derived.Carry
set_option linter.unusedVariables false -- all
set_option linter.unusedSimpArgs false
namespace Go.Proofs.Ytghlpjfpfjpddaa
open Go.ChangeShapes Go.WideShapes Go.ChangeAt Go.RowKit Go.Am

theorem Try.own : ownKnob Try.prog.godebug = none := by kernel_rfl
theorem Try.laidOut : laidOutB Try.prog = true := by kernel_rfl

set_option maxRecDepth 100000 in
theorem awayPlans_lifted (os : Os) (started : os.Started) (H : Type) (enc : TypeId × Value → H) :
    ReturnsInHanded {} Try.checked os 6 .any (Rows.awayPlansSpec.pre6 enc Try.prog Try.f6 Rows.awayPlansRow.domain false) (Rows.awayPlansSpec.post enc Try.prog Try.f6 false true false false) := by
  refine returnsInHanded_of_change (C := Try.checked) Try.own started (by kernel_rfl) Try.func6
    (ChangeSpec.witness6 (enc := enc) (C := Try.checked) false ⟨#[], #[.agg #[.slice none 0 0, .slice none 0 0, .int .i64 0, .int .i64 0, .int .i64 0], .slice none 0 0, .bool false, .int .u8 0, .int .i8 0], []⟩ 8 (by kernel_rfl) (by kernel_rfl) (by kernel_rfl) (by kernel_rfl)) ?_
  intro W base args ds gs before hval0 hW hcnd _
  have hval : ∀ (j : Nat) t v, Try.f6.params[j]? = some t → args[j]? = some v → Value.okWide Try.prog W .any base t v := hval0
  have hW' := hW
  obtain ⟨p, q, hA0, hV, rfl, hfz, hnd⟩ := hW
  have hA : DataW.TrodAll enc Try.prog W 0 (fun _ => true) true Try.f6.params.toList args.toList ds p := hA0
  rw [Try.params6] at hA hval
  obtain ⟨v0, v1, v2, v3, v4, d0, d1, d2, d3, d4, p0, p1, p2, p3, p4, rfl, rfl, rfl, h0, h1, h2, h3, h4⟩ := trodAll_five hA
  obtain ⟨rfl, rfl⟩ := trodVars_none hV
  obtain ⟨t, kt, r0⟩ := arg_struct Try.underlying27 rd27 (hval 0 27 v0 rfl rfl) h0
  obtain ⟨p, kp, r1⟩ := arg_slice Try.underlying28 rd28 (hval 1 28 v1 rfl rfl) h1
  obtain ⟨o, ko, r2⟩ := arg_bool Try.underlying4 rd4 (hval 2 4 v2 rfl rfl) h2
  obtain ⟨a, ka, r3⟩ := arg_int Try.underlying5 rd5 (hval 3 5 v3 rfl rfl) h3
  obtain ⟨b, kb, r4⟩ := arg_int Try.underlying61 rd61 (hval 4 61 v4 rfl rfl) h4
  refine (calls_law (vs := [v0, v1, v2, v3, v4]) (awayPlans_c t p o a b (okI_u8 ka) (okI_i8 kb)) rfl (fun j a b => ?_)).mono fun e W' ⟨he, hb⟩ => ⟨.bool true, he, ?_⟩
  · match j, a with
    | 0, _ => exact r0
    | 1, _ => exact r1
    | 2, _ => exact r2
    | 3, _ => exact r3
    | 4, _ => exact r4
  · exact post_law (P := Try.prog) (f := Try.f6) (tb := 4) Try.laidOut (by rw [Try.params6]; simp only [List.forall_mem_cons, List.not_mem_nil, false_implies, implies_true, and_true]; exact ⟨⟨by kernel_rfl, of_decide_eq_true (by kernel_rfl)⟩, ⟨by kernel_rfl, of_decide_eq_true (by kernel_rfl)⟩, ⟨by kernel_rfl, of_decide_eq_true (by kernel_rfl)⟩, ⟨by kernel_rfl, of_decide_eq_true (by kernel_rfl)⟩, ⟨by kernel_rfl, of_decide_eq_true (by kernel_rfl)⟩⟩) hW' rfl rfl rfl rfl (by kernel_rfl) Try.underlying4 hb

theorem awayPlans_holds : Rows.AwayPlansSaid :=
  OpenClaim.holds_of_wide 6 Try.f6 rfl rfl rfl rfl rfl rfl rfl ⟨rfl, rfl, rfl, rfl, rfl⟩ rfl rfl rfl rfl rfl (by kernel_rfl) Try.func6 (by kernel_rfl)
    (of_decide_eq_true (by kernel_rfl)) (by unfold Func.isWrapper; first | (rw [if_pos (by decide +kernel)]; kernel_rfl) | (rw [if_neg (by decide +kernel)]; exact ⟨rfl, rfl⟩))
    (fun os started H enc _ => awayPlans_lifted os started H enc)

#print axioms awayPlans_holds
end Go.Proofs.Ytghlpjfpfjpddaa
