/- The law AlarmSooner holds: for any post, reads, seasons, terms, rule and number the call returns true, and each argument reads afterwards as before. No conditions. -/
import Derived.Test.YtnjommobapmgbaaRows
import Derived.Test.YtnjommobapmgbaaM7
import Derived.Carry
namespace Go.Proofs.Ytnjommobapmgbaa
open Go.ChangeShapes Go.WideShapes Go.ChangeAt Go.RowKit Go.Am

theorem Try.own : ownKnob Try.prog.godebug = none := by kernel_rfl
theorem Try.laidOut : laidOutB Try.prog = true := by kernel_rfl

set_option maxRecDepth 100000 in
theorem alarmSooner_lifted (os : Os) (started : os.Started) (H : Type) (enc : TypeId × Value → H) :
    ReturnsInHanded {} Try.checked os 15 .any (Rows.alarmSoonerSpec.pre6 enc Try.prog Try.f15 Rows.alarmSoonerRow.domain false) (Rows.alarmSoonerSpec.post enc Try.prog Try.f15 false true false false) := by
  refine returnsInHanded_of_change (C := Try.checked) Try.own started (by kernel_rfl) Try.func15
    (ChangeSpec.witness6 (enc := enc) (C := Try.checked) false ⟨#[], #[.agg #[.slice none 0 0, .int .i64 0, .int .i64 0, .int .i64 0, .int .i64 0, .int .i64 0], .slice none 0 0, .slice none 0 0, .agg #[.int .i64 0, .int .i64 0, .int .i64 0, .int .i64 0, .int .i64 0], .agg #[.int .i64 0, .int .i64 0, .int .i64 0], .int .u8 0], []⟩ 8 (by kernel_rfl) (by kernel_rfl) (by kernel_rfl) (by kernel_rfl)) ?_
  intro W base args ds gs before hval0 hW hcnd _
  have hval : ∀ (j : Nat) t v, Try.f15.params[j]? = some t → args[j]? = some v → Value.okWide Try.prog W .any base t v := hval0
  have hW' := hW
  obtain ⟨p, q, hA0, hV, rfl, hfz, hnd⟩ := hW
  have hA : DataW.TrodAll enc Try.prog W 0 (fun _ => true) true Try.f15.params.toList args.toList ds p := hA0
  rw [Try.params15] at hA hval
  obtain ⟨v0, v1, v2, v3, v4, v5, d0, d1, d2, d3, d4, d5, p0, p1, p2, p3, p4, p5, rfl, rfl, rfl, h0, h1, h2, h3, h4, h5⟩ := trodAll_six hA
  obtain ⟨rfl, rfl⟩ := trodVars_none hV
  obtain ⟨p, kp, r0⟩ := arg_struct Try.underlying46 rd46 (hval 0 46 v0 rfl rfl) h0
  obtain ⟨l, kl, r1⟩ := arg_slice Try.underlying47 rd47 (hval 1 47 v1 rfl rfl) h1
  obtain ⟨s, ks, r2⟩ := arg_slice Try.underlying37 rd37 (hval 2 37 v2 rfl rfl) h2
  obtain ⟨t, kt, r3⟩ := arg_struct Try.underlying90 rd90 (hval 3 90 v3 rfl rfl) h3
  obtain ⟨r, kr, r4⟩ := arg_struct Try.underlying26 rd26 (hval 4 26 v4 rfl rfl) h4
  obtain ⟨n, kn, r5⟩ := arg_int Try.underlying5 rd5 (hval 5 5 v5 rfl rfl) h5
  refine (calls_law (vs := [v0, v1, v2, v3, v4, v5]) (alarmSooner_c p l s t r n (inB_of kp kl) ks (okI_u8 kn)) rfl (fun j a b => ?_)).mono fun e W' ⟨he, hb⟩ => ⟨.bool true, he, ?_⟩
  · match j, a with
    | 0, _ => exact r0
    | 1, _ => exact r1
    | 2, _ => exact r2
    | 3, _ => exact r3
    | 4, _ => exact r4
    | 5, _ => exact r5
  · exact post_law (P := Try.prog) (f := Try.f15) (tb := 4) Try.laidOut (by rw [Try.params15]; simp only [List.forall_mem_cons, List.not_mem_nil, false_implies, implies_true, and_true]; exact ⟨⟨by kernel_rfl, of_decide_eq_true (by kernel_rfl)⟩, ⟨by kernel_rfl, of_decide_eq_true (by kernel_rfl)⟩, ⟨by kernel_rfl, of_decide_eq_true (by kernel_rfl)⟩, ⟨by kernel_rfl, of_decide_eq_true (by kernel_rfl)⟩, ⟨by kernel_rfl, of_decide_eq_true (by kernel_rfl)⟩, ⟨by kernel_rfl, of_decide_eq_true (by kernel_rfl)⟩⟩) hW' rfl rfl rfl rfl (by kernel_rfl) Try.underlying4 hb

theorem alarmSooner_holds : Rows.AlarmSoonerSaid :=
  OpenClaim.holds_of_wide 15 Try.f15 rfl rfl rfl rfl rfl rfl rfl ⟨rfl, rfl, rfl, rfl, rfl⟩ rfl rfl rfl rfl rfl (by kernel_rfl) Try.func15 (by kernel_rfl)
    (of_decide_eq_true (by kernel_rfl)) (by unfold Func.isWrapper; first | (rw [if_pos (by decide +kernel)]; kernel_rfl) | (rw [if_neg (by decide +kernel)]; exact ⟨rfl, rfl⟩))
    (fun os started H enc _ => alarmSooner_lifted os started H enc)

#print axioms alarmSooner_holds
end Go.Proofs.Ytnjommobapmgbaa
