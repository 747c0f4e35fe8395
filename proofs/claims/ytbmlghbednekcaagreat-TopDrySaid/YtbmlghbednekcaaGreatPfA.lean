/- The law TopDry holds: for any town, lake, works, choice, river, houses and words the call returns true, and each argument reads afterwards as before. No conditions. -/
import Derived.Test.YtbmlghbednekcaaGreatRows
import Derived.Test.YtbmlghbednekcaaGreatK8
import Derived.Carry
set_option linter.unusedVariables false -- all
set_option linter.unusedSimpArgs false
namespace Go.Proofs.YtbmlghbednekcaaGreat
open Go.ChangeShapes Go.WideShapes Go.ChangeAt Go.RowKit Go.Am

theorem Tryz.own : ownKnob Tryz.prog.godebug = none := by kernel_rfl
theorem Tryz.laidOut : laidOutB Tryz.prog = true := by kernel_rfl

set_option maxRecDepth 100000 in
theorem topDry_lifted (os : Os) (started : os.Started) (H : Type) (enc : TypeId × Value → H) :
    ReturnsInHanded {} Tryz.checked os 3 .any (Rows.topDrySpec.pre6 enc Tryz.prog Tryz.f3 Rows.topDryRow.domain false) (Rows.topDrySpec.post enc Tryz.prog Tryz.f3 false true false false) := by
  refine returnsInHanded_of_change (C := Tryz.checked) Tryz.own started (by kernel_rfl) Tryz.func3
    (ChangeSpec.witness6 (enc := enc) (C := Tryz.checked) false ⟨#[], #[.agg #[.slice none 0 0, .slice none 0 0, .int .i64 0, .int .i64 0, .int .i64 0], .agg #[.slice none 0 0, .int .i64 0, .int .i64 0, .int .i64 0, .int .i64 0, .int .i64 0, .int .i64 0, .int .i64 0, .int .i64 0, .slice none 0 0], .slice none 0 0, .slice none 0 0, .agg #[.int .i64 0, .int .i64 0, .int .i64 0], .slice none 0 0, .slice none 0 0], []⟩ 8 (by kernel_rfl) (by kernel_rfl) (by kernel_rfl) (by kernel_rfl)) ?_
  intro W base args ds gs before hval0 hW hcnd _
  have hval : ∀ (j : Nat) t v, Tryz.f3.params[j]? = some t → args[j]? = some v → Value.okWide Tryz.prog W .any base t v := hval0
  have hW' := hW
  obtain ⟨p, q, hA0, hV, rfl, hfz, hnd⟩ := hW
  have hA : DataW.TrodAll enc Tryz.prog W 0 (fun _ => true) true Tryz.f3.params.toList args.toList ds p := hA0
  rw [Tryz.params3] at hA hval
  obtain ⟨v0, v1, v2, v3, v4, v5, v6, d0, d1, d2, d3, d4, d5, d6, p0, p1, p2, p3, p4, p5, p6, rfl, rfl, rfl, h0, h1, h2, h3, h4, h5, h6⟩ := trodAll_seven hA
  obtain ⟨rfl, rfl⟩ := trodVars_none hV
  obtain ⟨t, kt, r0⟩ := arg_struct Tryz.underlying27 La.rd27 (hval 0 27 v0 rfl rfl) h0
  obtain ⟨l, kl, r1⟩ := arg_struct Tryz.underlying32 La.rd32 (hval 1 32 v1 rfl rfl) h1
  obtain ⟨k, kk, r2⟩ := arg_slice Tryz.underlying33 La.rd33 (hval 2 33 v2 rfl rfl) h2
  obtain ⟨c, kc, r3⟩ := arg_slice Tryz.underlying28 La.rd28 (hval 3 28 v3 rfl rfl) h3
  obtain ⟨r, kr, r4⟩ := arg_struct Tryz.underlying35 La.rd35 (hval 4 35 v4 rfl rfl) h4
  obtain ⟨h, kh, r5⟩ := arg_slice Tryz.underlying36 La.rd36 (hval 5 36 v5 rfl rfl) h5
  obtain ⟨w, kw, r6⟩ := arg_slice Tryz.underlying37 La.rd37 (hval 6 37 v6 rfl rfl) h6
  refine (calls_law (vs := [v0, v1, v2, v3, v4, v5, v6]) (La.dryLaw_c t l k c r h w kh kw) rfl (fun j a b => ?_)).mono fun e W' ⟨he, hb⟩ => ⟨.bool true, he, ?_⟩
  · match j, a with
    | 0, _ => exact r0
    | 1, _ => exact r1
    | 2, _ => exact r2
    | 3, _ => exact r3
    | 4, _ => exact r4
    | 5, _ => exact r5
    | 6, _ => exact r6
  · exact post_law (P := Tryz.prog) (f := Tryz.f3) (tb := 4) Tryz.laidOut (by rw [Tryz.params3]; simp only [List.forall_mem_cons, List.not_mem_nil, false_implies, implies_true, and_true]; exact ⟨⟨by kernel_rfl, of_decide_eq_true (by kernel_rfl)⟩, ⟨by kernel_rfl, of_decide_eq_true (by kernel_rfl)⟩, ⟨by kernel_rfl, of_decide_eq_true (by kernel_rfl)⟩, ⟨by kernel_rfl, of_decide_eq_true (by kernel_rfl)⟩, ⟨by kernel_rfl, of_decide_eq_true (by kernel_rfl)⟩, ⟨by kernel_rfl, of_decide_eq_true (by kernel_rfl)⟩, ⟨by kernel_rfl, of_decide_eq_true (by kernel_rfl)⟩⟩) hW' rfl rfl rfl rfl (by kernel_rfl) Tryz.underlying4 hb

theorem topDry_holds : Rows.TopDrySaid :=
  OpenClaim.holds_of_wide 3 Tryz.f3 rfl rfl rfl rfl rfl rfl rfl ⟨rfl, rfl, rfl, rfl, rfl⟩ rfl rfl rfl rfl rfl (by kernel_rfl) Tryz.func3 (by kernel_rfl)
    (of_decide_eq_true (by kernel_rfl)) (by unfold Func.isWrapper; first | (rw [if_pos (by decide +kernel)]; kernel_rfl) | (rw [if_neg (by decide +kernel)]; exact ⟨rfl, rfl⟩))
    (fun os started H enc _ => topDry_lifted os started H enc)

#print axioms topDry_holds
end Go.Proofs.YtbmlghbednekcaaGreat
