/- The law AlarmMore holds: for any post, reads, number and words the call returns true, and each argument reads afterwards as before. No conditions. -/
import Derived.Test.YtnjommobapmgbaaRows
import Derived.Test.YtnjommobapmgbaaG6
import Derived.Test.YtnjommobapmgbaaG7
import Derived.Carry
set_option linter.unusedVariables false -- all
set_option linter.unusedSimpArgs false
namespace Go.Proofs.Ytnjommobapmgbaa
open Go.ChangeShapes Go.WideShapes Go.ChangeAt Go.RowKit Go.Am

theorem Try.own : ownKnob Try.prog.godebug = none := by kernel_rfl
theorem Try.laidOut : laidOutB Try.prog = true := by kernel_rfl

set_option maxRecDepth 100000 in
theorem alarmMore_lifted (os : Os) (started : os.Started) (H : Type) (enc : TypeId × Value → H) :
    ReturnsInHanded {} Try.checked os 4 .any (Rows.alarmMoreSpec.pre6 enc Try.prog Try.f4 Rows.alarmMoreRow.domain false) (Rows.alarmMoreSpec.post enc Try.prog Try.f4 false true false false) := by
  refine returnsInHanded_of_change (C := Try.checked) Try.own started (by kernel_rfl) Try.func4
    (ChangeSpec.witness6 (enc := enc) (C := Try.checked) false ⟨#[], #[.agg #[.slice none 0 0, .int .i64 0, .int .i64 0, .int .i64 0, .int .i64 0, .int .i64 0], .slice none 0 0, .int .u16 0, .slice none 0 0], []⟩ 8 (by kernel_rfl) (by kernel_rfl) (by kernel_rfl) (by kernel_rfl)) ?_
  intro W base args ds gs before hval0 hW hcnd _
  have hval : ∀ (j : Nat) t v, Try.f4.params[j]? = some t → args[j]? = some v → Value.okWide Try.prog W .any base t v := hval0
  have hW' := hW
  obtain ⟨p, q, hA0, hV, rfl, hfz, hnd⟩ := hW
  have hA : DataW.TrodAll enc Try.prog W 0 (fun _ => true) true Try.f4.params.toList args.toList ds p := hA0
  rw [Try.params4] at hA hval
  obtain ⟨v0, v1, v2, v3, d0, d1, d2, d3, p0, p1, p2, p3, rfl, rfl, rfl, h0, h1, h2, h3⟩ := trodAll_four hA
  obtain ⟨rfl, rfl⟩ := trodVars_none hV
  obtain ⟨p, kp, r0⟩ := arg_struct Try.underlying46 rd46 (hval 0 46 v0 rfl rfl) h0
  obtain ⟨l, kl, r1⟩ := arg_slice Try.underlying47 rd47 (hval 1 47 v1 rfl rfl) h1
  obtain ⟨n, kn, r2⟩ := arg_int Try.underlying48 rd48 (hval 2 48 v2 rfl rfl) h2
  obtain ⟨w, kw, r3⟩ := arg_slice Try.underlying49 rd49 (hval 3 49 v3 rfl rfl) h3
  refine (calls_law (vs := [v0, v1, v2, v3]) (alarmMore_c p l n w (inB_of kp kl) (okI_u16 kn) (wordsOK_of kw)) rfl (fun j a b => ?_)).mono fun e W' ⟨he, hb⟩ => ⟨.bool true, he, ?_⟩
  · match j, a with
    | 0, _ => exact r0
    | 1, _ => exact r1
    | 2, _ => exact r2
    | 3, _ => exact r3
  · exact post_law (P := Try.prog) (f := Try.f4) (tb := 4) Try.laidOut (by rw [Try.params4]; simp only [List.forall_mem_cons, List.not_mem_nil, false_implies, implies_true, and_true]; exact ⟨⟨by kernel_rfl, of_decide_eq_true (by kernel_rfl)⟩, ⟨by kernel_rfl, of_decide_eq_true (by kernel_rfl)⟩, ⟨by kernel_rfl, of_decide_eq_true (by kernel_rfl)⟩, ⟨by kernel_rfl, of_decide_eq_true (by kernel_rfl)⟩⟩) hW' rfl rfl rfl rfl (by kernel_rfl) Try.underlying4 hb

theorem alarmMore_holds : Rows.AlarmMoreSaid :=
  OpenClaim.holds_of_wide 4 Try.f4 rfl rfl rfl rfl rfl rfl rfl ⟨rfl, rfl, rfl, rfl, rfl⟩ rfl rfl rfl rfl rfl (by kernel_rfl) Try.func4 (by kernel_rfl)
    (of_decide_eq_true (by kernel_rfl)) (by unfold Func.isWrapper; first | (rw [if_pos (by decide +kernel)]; kernel_rfl) | (rw [if_neg (by decide +kernel)]; exact ⟨rfl, rfl⟩))
    (fun os started H enc _ => alarmMore_lifted os started H enc)

#print axioms alarmMore_holds
end Go.Proofs.Ytnjommobapmgbaa
