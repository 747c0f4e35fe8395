/- The law AnnalsMore holds: for any annals, one claim more and two reports the call returns true, and each argument reads afterwards as before. No conditions. -/
import Derived.Test.YtemdkbogfafjgaaRows
import Derived.Test.YtemdkbogfafjgaaT4
import Derived.Test.YtemdkbogfafjgaaSa
import Derived.Carry
namespace Go.Proofs.Ytemdkbogfafjgaa
open Go.ChangeShapes Go.WideShapes Go.ChangeAt Go.RowKit Go.Am

theorem Try.own : ownKnob Try.prog.godebug = none := by kernel_rfl
theorem Try.laidOut : laidOutB Try.prog = true := by kernel_rfl

set_option maxRecDepth 100000 in
theorem annalsMore_lifted (os : Os) (started : os.Started) (H : Type) (enc : TypeId × Value → H) :
    ReturnsInHanded {} Try.checked os 7 .any (Rows.annalsMoreSpec.pre6 enc Try.prog Try.f7 Rows.annalsMoreRow.domain false) (Rows.annalsMoreSpec.post enc Try.prog Try.f7 false true false false) := by
  refine returnsInHanded_of_change (C := Try.checked) Try.own started (by kernel_rfl) Try.func7
    (ChangeSpec.witness6 (enc := enc) (C := Try.checked) false ⟨#[], #[.agg #[.slice none 0 0, .slice none 0 0, .int .i64 0], .agg #[.int .u8 0, .int .i64 0, .int .i64 0], .int .u8 0, .int .u8 0], []⟩ 8 (by kernel_rfl) (by kernel_rfl) (by kernel_rfl) (by kernel_rfl)) ?_
  intro W base args ds gs before hval0 hW hcnd _
  have hval : ∀ (j : Nat) t v, Try.f7.params[j]? = some t → args[j]? = some v → Value.okWide Try.prog W .any base t v := hval0
  have hW' := hW
  obtain ⟨p, q, hA0, hV, rfl, hfz, hnd⟩ := hW
  have hA : DataW.TrodAll enc Try.prog W 0 (fun _ => true) true Try.f7.params.toList args.toList ds p := hA0
  rw [Try.params7] at hA hval
  obtain ⟨v0, v1, v2, v3, d0, d1, d2, d3, p0, p1, p2, p3, rfl, rfl, rfl, h0, h1, h2, h3⟩ := trodAll_four hA
  obtain ⟨rfl, rfl⟩ := trodVars_none hV
  obtain ⟨t, kt, r0⟩ := arg_struct Try.underlying25 rd25 (hval 0 25 v0 rfl rfl) h0
  obtain ⟨c, kc, r1⟩ := arg_struct Try.underlying71 rd71 (hval 1 71 v1 rfl rfl) h1
  obtain ⟨x, kx, r2⟩ := arg_int Try.underlying5 rd5 (hval 2 5 v2 rfl rfl) h2
  obtain ⟨y, ky, r3⟩ := arg_int Try.underlying5 rd5 (hval 3 5 v3 rfl rfl) h3
  refine (calls_law (vs := [v0, v1, v2, v3]) (annalsMore_c t c x y kt kc kx ky) rfl (fun j a b => ?_)).mono fun e W' ⟨he, hb⟩ => ⟨.bool true, he, ?_⟩
  · match j, a with
    | 0, _ => exact r0
    | 1, _ => exact r1
    | 2, _ => exact r2
    | 3, _ => exact r3
  · exact post_law (P := Try.prog) (f := Try.f7) (tb := 4) Try.laidOut (by rw [Try.params7]; simp only [List.forall_mem_cons, List.not_mem_nil, false_implies, implies_true, and_true]; exact ⟨⟨by kernel_rfl, of_decide_eq_true (by kernel_rfl)⟩, ⟨by kernel_rfl, of_decide_eq_true (by kernel_rfl)⟩, ⟨by kernel_rfl, of_decide_eq_true (by kernel_rfl)⟩, ⟨by kernel_rfl, of_decide_eq_true (by kernel_rfl)⟩⟩) hW' rfl rfl rfl rfl (by kernel_rfl) Try.underlying4 hb

theorem annalsMore_holds : Rows.AnnalsMoreSaid :=
  OpenClaim.holds_of_wide 7 Try.f7 rfl rfl rfl rfl rfl rfl rfl ⟨rfl, rfl, rfl, rfl, rfl⟩ rfl rfl rfl rfl rfl (by kernel_rfl) Try.func7 (by kernel_rfl)
    (of_decide_eq_true (by kernel_rfl)) (by unfold Func.isWrapper; first | (rw [if_pos (by decide +kernel)]; kernel_rfl) | (rw [if_neg (by decide +kernel)]; exact ⟨rfl, rfl⟩))
    (fun os started H enc _ => annalsMore_lifted os started H enc)

#print axioms annalsMore_holds
end Go.Proofs.Ytemdkbogfafjgaa
