/- The law TopReached holds: for any slope, valley, factor and words the call returns true, and each argument reads afterwards as before. No conditions. -/
import Derived.Test.YtaofjkcenmnldaaRows
import Derived.Test.YtaofjkcenmnldaaKc
import Derived.Carry
import Derived.SizedLaws
set_option linter.unusedVariables false -- all
set_option linter.unusedSimpArgs false
namespace Go.Proofs.Ytaofjkcenmnldaa
open Go.ChangeShapes Go.WideShapes Go.ChangeAt Go.RowKit Go.Am

theorem Try.own : ownKnob Try.prog.godebug = none := by kernel_rfl
theorem Try.laidOut : laidOutB Try.prog = true := by kernel_rfl

set_option maxRecDepth 100000 in
theorem topReached_lifted (os : Os) (started : os.Started) (H : Type) (enc : TypeId × Value → H) :
    ReturnsInHanded {} Try.checked os 3 .any (Rows.topReachedSpec.pre6 enc Try.prog Try.f3 Rows.topReachedRow.domain false) (Rows.topReachedSpec.post enc Try.prog Try.f3 false true false false) := by
  refine returnsInHanded_of_change_sized (C := Try.checked) Try.own started (by kernel_rfl) Try.func3
    (ChangeSpec.witness6 (enc := enc) (C := Try.checked) false ⟨#[], #[.agg #[.slice none 0 0, .int .i64 0], .agg #[.slice none 0 0, .slice none 0 0, .int .i64 0, .int .i64 0, .int .i64 0], .int .u16 0, .slice none 0 0], []⟩ 8 (by kernel_rfl) (by kernel_rfl) (by kernel_rfl) (by kernel_rfl)) ?_
  intro W base args ds gs before hval0 hW hcnd hz _
  have hval : ∀ (j : Nat) t v, Try.f3.params[j]? = some t → args[j]? = some v → Value.okWide Try.prog W .any base t v := hval0
  have hW' := hW
  obtain ⟨p, q, hA0, hV, rfl, hfz, hnd⟩ := hW
  have hA : DataW.TrodAll enc Try.prog W 0 (fun _ => true) true Try.f3.params.toList args.toList ds p := hA0
  rw [Try.params3] at hA hval
  obtain ⟨v0, v1, v2, v3, d0, d1, d2, d3, p0, p1, p2, p3, rfl, rfl, rfl, h0, h1, h2, h3⟩ := trodAll_4 hA
  obtain ⟨rfl, rfl⟩ := trodVars_none hV
  obtain ⟨s, ks, r0⟩ := arg_struct Try.underlying24 rd24 (hval 0 24 v0 rfl rfl) h0
  obtain ⟨v, kv, r1⟩ := arg_struct Try.underlying29 rd29 (hval 1 29 v1 rfl rfl) h1
  obtain ⟨f, kf, r2⟩ := arg_int Try.underlying30 rd30 (hval 2 30 v2 rfl rfl) h2
  obtain ⟨w, kw, r3, kl⟩ := arg_words Try.underlying31 rd31 (hval 3 31 v3 rfl rfl) h3
  have hwl : w.length * 2 ≤ 140737488355328 := by
    rcases kl with h0 | ⟨elems, spare, rfl, h0⟩
    · omega
    · have hb := sized_slice hz (j := 3) (t := 31) (e := 30) (by rw [Try.params3]; rfl) rfl Try.underlying31
      have hb2 : (elems.length + spare.length) * 2 ≤ 140737488351232 := by
        have h9 : Try.checked.prog.bytesOf 30 = 2 := bytes30
        rw [h9] at hb
        exact hb
      omega
  have ib : InB s v f w := ⟨ks.1, ks.2, kv.1, kv.2.1, kv.2.2, okI_u16 kf, hwl, kw⟩
  refine (calls_law (vs := [v0, v1, v2, v3]) (topReached_c s v f w ib) rfl (fun j a b => ?_)).mono fun e W' ⟨he, hb⟩ => ⟨.bool true, he, ?_⟩
  · match j, a with
    | 0, _ => exact r0
    | 1, _ => exact r1
    | 2, _ => exact r2
    | 3, _ => exact r3
  · exact post_law (P := Try.prog) (f := Try.f3) (tb := 4) Try.laidOut (by rw [Try.params3]; simp only [List.forall_mem_cons, List.not_mem_nil, false_implies, implies_true, and_true]; exact ⟨⟨by kernel_rfl, of_decide_eq_true (by kernel_rfl)⟩, ⟨by kernel_rfl, of_decide_eq_true (by kernel_rfl)⟩, ⟨by kernel_rfl, of_decide_eq_true (by kernel_rfl)⟩, ⟨by kernel_rfl, of_decide_eq_true (by kernel_rfl)⟩⟩) hW' rfl rfl rfl rfl (by kernel_rfl) Try.underlying4 hb

theorem topReached_holds : Rows.TopReachedSaid :=
  OpenClaim.holds_of_wide 3 Try.f3 rfl rfl rfl rfl rfl rfl rfl ⟨rfl, rfl, rfl, rfl, rfl⟩ rfl rfl rfl rfl rfl (by kernel_rfl) Try.func3 (by kernel_rfl)
    (of_decide_eq_true (by kernel_rfl)) (by unfold Func.isWrapper; first | (rw [if_pos (by decide +kernel)]; kernel_rfl) | (rw [if_neg (by decide +kernel)]; exact ⟨rfl, rfl⟩))
    (fun os started H enc _ => topReached_lifted os started H enc)

#print axioms topReached_holds
end Go.Proofs.Ytaofjkcenmnldaa
