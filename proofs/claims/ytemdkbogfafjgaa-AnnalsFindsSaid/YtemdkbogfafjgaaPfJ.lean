/- The law AnnalsFinds holds: for any annals, slide numbers and days the call returns true, and each argument reads afterwards as before. No conditions. -/
import Derived.Test.YtemdkbogfafjgaaRows
import Derived.Test.YtemdkbogfafjgaaZ4
import Derived.Test.YtemdkbogfafjgaaZf
namespace Go.Proofs.Ytemdkbogfafjgaa
open Go.ChangeShapes Go.WideShapes Go.ChangeAt Go.RowKit Go.Am

theorem Try.own : ownKnob Try.prog.godebug = none := by kernel_rfl
theorem Try.laidOut : laidOutB Try.prog = true := by kernel_rfl

set_option maxRecDepth 100000 in
theorem annalsFinds_lifted (os : Os) (started : os.Started) (H : Type) (enc : TypeId × Value → H) :
    ReturnsInHanded {} Try.checked os 12 .any (Rows.annalsFindsSpec.pre6 enc Try.prog Try.f12 Rows.annalsFindsRow.domain false) (Rows.annalsFindsSpec.post enc Try.prog Try.f12 false true false false) := by
  refine returnsInHanded_of_change (C := Try.checked) Try.own started (by kernel_rfl) Try.func12
    (ChangeSpec.witness6 (enc := enc) (C := Try.checked) false ⟨#[], #[.agg #[.slice none 0 0, .slice none 0 0, .int .i64 0], .slice none 0 0, .slice none 0 0], []⟩ 8 (by kernel_rfl) (by kernel_rfl) (by kernel_rfl) (by kernel_rfl)) ?_
  intro W base args ds gs before hval0 hW hcnd _
  have hval : ∀ (j : Nat) t v, Try.f12.params[j]? = some t → args[j]? = some v → Value.okWide Try.prog W .any base t v := hval0
  have hW' := hW
  obtain ⟨p, q, hA0, hV, rfl, hfz, hnd⟩ := hW
  have hA : DataW.TrodAll enc Try.prog W 0 (fun _ => true) true Try.f12.params.toList args.toList ds p := hA0
  rw [Try.params12] at hA hval
  obtain ⟨v0, v1, v2, d0, d1, d2, p0, p1, p2, rfl, rfl, rfl, h0, h1, h2⟩ := trodAll_three hA
  obtain ⟨rfl, rfl⟩ := trodVars_none hV
  obtain ⟨t, kt, r0⟩ := arg_struct Try.underlying25 rd25 (hval 0 25 v0 rfl rfl) h0
  obtain ⟨S, kS, r1⟩ := arg_slice Try.underlying59 rd59 (hval 1 59 v1 rfl rfl) h1
  obtain ⟨D, kD, r2⟩ := arg_slice Try.underlying59 rd59 (hval 2 59 v2 rfl rfl) h2
  refine (calls_law (vs := [v0, v1, v2]) (annalsFinds_c t S D kt kS) rfl (fun j a b => ?_)).mono fun e W' ⟨he, hb⟩ => ⟨.bool true, he, ?_⟩
  · match j, a with
    | 0, _ => exact r0
    | 1, _ => exact r1
    | 2, _ => exact r2
  · exact post_law (P := Try.prog) (f := Try.f12) (tb := 4) Try.laidOut (by rw [Try.params12]; simp only [List.forall_mem_cons, List.not_mem_nil, false_implies, implies_true, and_true]; exact ⟨⟨by kernel_rfl, of_decide_eq_true (by kernel_rfl)⟩, ⟨by kernel_rfl, of_decide_eq_true (by kernel_rfl)⟩, ⟨by kernel_rfl, of_decide_eq_true (by kernel_rfl)⟩⟩) hW' rfl rfl rfl rfl (by kernel_rfl) Try.underlying4 hb

theorem annalsFinds_holds : Rows.AnnalsFindsSaid :=
  OpenClaim.holds_of_wide 12 Try.f12 rfl rfl rfl rfl rfl rfl rfl ⟨rfl, rfl, rfl, rfl, rfl⟩ rfl rfl rfl rfl rfl (by kernel_rfl) Try.func12 (by kernel_rfl)
    (of_decide_eq_true (by kernel_rfl)) (by unfold Func.isWrapper; first | (rw [if_pos (by decide +kernel)]; kernel_rfl) | (rw [if_neg (by decide +kernel)]; exact ⟨rfl, rfl⟩))
    (fun os started H enc _ => annalsFinds_lifted os started H enc)

#print axioms annalsFinds_holds
end Go.Proofs.Ytemdkbogfafjgaa
