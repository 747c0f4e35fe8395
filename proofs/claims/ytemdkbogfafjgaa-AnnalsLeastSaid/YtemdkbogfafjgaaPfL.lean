/- The law AnnalsLeast holds: for any annals, numbers and a number the call returns true, and each argument reads afterwards as before. No conditions. -/
import Derived.Test.YtemdkbogfafjgaaRows
import Derived.Test.YtemdkbogfafjgaaL4
import Derived.Test.YtemdkbogfafjgaaLb
namespace Go.Proofs.Ytemdkbogfafjgaa
open Go.ChangeShapes Go.WideShapes Go.ChangeAt Go.RowKit Go.Am

theorem Try.own : ownKnob Try.prog.godebug = none := by kernel_rfl
theorem Try.laidOut : laidOutB Try.prog = true := by kernel_rfl

set_option maxRecDepth 100000 in
theorem annalsLeast_lifted (os : Os) (started : os.Started) (H : Type) (enc : TypeId × Value → H) :
    ReturnsInHanded {} Try.checked os 14 .any (Rows.annalsLeastSpec.pre6 enc Try.prog Try.f14 Rows.annalsLeastRow.domain false) (Rows.annalsLeastSpec.post enc Try.prog Try.f14 false true false false) := by
  refine returnsInHanded_of_change (C := Try.checked) Try.own started (by kernel_rfl) Try.func14
    (ChangeSpec.witness6 (enc := enc) (C := Try.checked) false ⟨#[], #[.agg #[.slice none 0 0, .slice none 0 0, .int .i64 0], .slice none 0 0, .int .u8 0], []⟩ 8 (by kernel_rfl) (by kernel_rfl) (by kernel_rfl) (by kernel_rfl)) ?_
  intro W base args ds gs before hval0 hW hcnd _
  have hval : ∀ (j : Nat) t v, Try.f14.params[j]? = some t → args[j]? = some v → Value.okWide Try.prog W .any base t v := hval0
  have hW' := hW
  obtain ⟨p, q, hA0, hV, rfl, hfz, hnd⟩ := hW
  have hA : DataW.TrodAll enc Try.prog W 0 (fun _ => true) true Try.f14.params.toList args.toList ds p := hA0
  rw [Try.params14] at hA hval
  obtain ⟨v0, v1, v2, d0, d1, d2, p0, p1, p2, rfl, rfl, rfl, h0, h1, h2⟩ := trodAll_three hA
  obtain ⟨rfl, rfl⟩ := trodVars_none hV
  obtain ⟨t, kt, r0⟩ := arg_struct Try.underlying25 rd25 (hval 0 25 v0 rfl rfl) h0
  obtain ⟨O, kO, r1⟩ := arg_slice Try.underlying59 rd59 (hval 1 59 v1 rfl rfl) h1
  obtain ⟨x, kx, r2⟩ := arg_int Try.underlying5 rd5 (hval 2 5 v2 rfl rfl) h2
  refine (calls_law (vs := [v0, v1, v2]) (annalsLeast_c t O x kt kx) rfl (fun j a b => ?_)).mono fun e W' ⟨he, hb⟩ => ⟨.bool true, he, ?_⟩
  · match j, a with
    | 0, _ => exact r0
    | 1, _ => exact r1
    | 2, _ => exact r2
  · exact post_law (P := Try.prog) (f := Try.f14) (tb := 4) Try.laidOut (by rw [Try.params14]; simp only [List.forall_mem_cons, List.not_mem_nil, false_implies, implies_true, and_true]; exact ⟨⟨by kernel_rfl, of_decide_eq_true (by kernel_rfl)⟩, ⟨by kernel_rfl, of_decide_eq_true (by kernel_rfl)⟩, ⟨by kernel_rfl, of_decide_eq_true (by kernel_rfl)⟩⟩) hW' rfl rfl rfl rfl (by kernel_rfl) Try.underlying4 hb

theorem annalsLeast_holds : Rows.AnnalsLeastSaid :=
  OpenClaim.holds_of_wide 14 Try.f14 rfl rfl rfl rfl rfl rfl rfl ⟨rfl, rfl, rfl, rfl, rfl⟩ rfl rfl rfl rfl rfl (by kernel_rfl) Try.func14 (by kernel_rfl)
    (of_decide_eq_true (by kernel_rfl)) (by unfold Func.isWrapper; first | (rw [if_pos (by decide +kernel)]; kernel_rfl) | (rw [if_neg (by decide +kernel)]; exact ⟨rfl, rfl⟩))
    (fun os started H enc _ => annalsLeast_lifted os started H enc)

#print axioms annalsLeast_holds
end Go.Proofs.Ytemdkbogfafjgaa
