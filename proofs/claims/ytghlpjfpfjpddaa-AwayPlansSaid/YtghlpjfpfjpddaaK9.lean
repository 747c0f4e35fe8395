/- Parts TwF, TwG, TwH of the proof, one behind the other. No statement is proved here. -/
import Derived.Test.YtghlpjfpfjpddaaK8
set_option linter.unusedVariables false -- all
set_option linter.unusedSimpArgs false
/- The law AwayPlans, as a contract: it returns true. The first cases. -/
namespace Go.Am
open Go.RowKit Go.Proofs
attribute [local irreducible] AWP CallS Kt goK CallK stepK evOps SemF SemY Imp
set_option maxRecDepth 4000
set_option linter.unusedSimpArgs false
set_option linter.unusedVariables false
set_option maxHeartbeats 3200000
theorem bin_boolW {P : Program} {t : TypeId} {K : AV → Prop} (h : P.underlying t = some .bool) {x y : Bool} : binK P .eql t (.bool x) (.bool y) K = K (.bool (decide (x = y))) := by
  simp only [binK, h, true_and]
  congr 2
theorem eqBo {K : AV → Prop} {x y : Bool} : binK Try.prog .eql 4 (.bool x) (.bool y) K = K (.bool (decide (x = y))) := bin_boolW Try.underlying4
theorem ren_bus {σ : Nat → Nat} : ∀ l : List Bus, renL σ (recs busC l) = recs busC l
  | [] => by simp [recs, renL]
  | b :: l => by
    have ih := ren_bus (σ := σ) l
    show renL σ (.int .i64 b.leave :: .int .i64 b.hall :: .psl false b.homes.length (ints b.homes) :: recs busC l) = .int .i64 b.leave :: .int .i64 b.hall :: .psl false b.homes.length (ints b.homes) :: recs busC l
    simp only [renL, ren, ih]
theorem fewB_ok {t : Town} (h : fewB t = true) : townOK t := by
  simp only [fewB, Bool.and_eq_true] at h
  exact (thinB_ok h.1).1
theorem plans_off (t : Town) (plan : List Bus) (own : Bool) (at0 by0 : Int) (hF : fewB t = false) : CallS Try.prog 6 [.agg (townC t), slB plan, .bool own, .int .u8 at0, .int .i8 by0] (.bool true) := by
  have hfw := few_c t
  have hA := awake_c
  rw [hF] at hfw
  simp only [slB, townC, slH, slL] at hfw ⊢
  (refine callS_of_awp (fun w args => Try.call6 ..) Try.func6 rfl (fun w0 m0 wz => ?_); simp only [Try.ntmps6, Try.results6, initT, junks, homeC, hallC, slH, slL, townC, sl, List.toList_toArray, List.cons_append, List.nil_append, List.length_cons, List.length_nil, Nat.reduceAdd, Nat.reduceSub])
  (repeat' (first
 | refine awp_seqK ?_
 | refine kt ?_
 | refine And.intro ?_ ?_
 | ((first | refine awp_stp rfl ?_ | refine awp_draw (by kernel_rfl) (by kernel_rfl) ?_ | refine Imp.le2 ?_ | refine callK_of (hfw) ?_ | refine callK_of (hA) ?_ | refine go_split (fun _h => ?_) (fun _h => ?_)) <;> try simp (maxSteps := 4000000) only [go_sem, seval])
 | intro _h
 | refine awp_block ?_
 | refine awp_scope ?_
 | refine cond_b ?_ ?_
 | (show heapOK _ _ = true; kernel_rfl)
 | (show heapOK2 _ _ = true; kernel_rfl)
 | (omega)))
theorem plans_long (t : Town) (plan : List Bus) (own : Bool) (at0 by0 : Int) (hF : fewB t = true) (hS : shortB plan = false) : CallS Try.prog 6 [.agg (townC t), slB plan, .bool own, .int .u8 at0, .int .i8 by0] (.bool true) := by
  have hfw := few_c t
  have hsh := short_c plan
  have hA := awake_c
  rw [hF] at hfw
  rw [hS] at hsh
  simp only [slB, townC, slH, slL] at hfw hsh ⊢
  (refine callS_of_awp (fun w args => Try.call6 ..) Try.func6 rfl (fun w0 m0 wz => ?_); simp only [Try.ntmps6, Try.results6, initT, junks, homeC, hallC, slH, slL, townC, sl, List.toList_toArray, List.cons_append, List.nil_append, List.length_cons, List.length_nil, Nat.reduceAdd, Nat.reduceSub])
  (repeat' (first
 | refine awp_seqK ?_
 | refine kt ?_
 | refine And.intro ?_ ?_
 | ((first | refine awp_stp rfl ?_ | refine awp_draw (by kernel_rfl) (by kernel_rfl) ?_ | refine Imp.le2 ?_ | refine callK_of (hfw) ?_ | refine callK_of (hsh) ?_ | refine callK_of (hA) ?_ | refine go_split (fun _h => ?_) (fun _h => ?_)) <;> try simp (maxSteps := 4000000) only [go_sem, seval])
 | intro _h
 | refine awp_block ?_
 | refine awp_scope ?_
 | refine cond_b ?_ ?_
 | (show heapOK _ _ = true; kernel_rfl)
 | (show heapOK2 _ _ = true; kernel_rfl)
 | (omega)))
theorem plans_bad (t : Town) (plan : List Bus) (own : Bool) (at0 by0 : Int) (hF : fewB t = true) (hS : shortB plan = true) (h0 : faultT t ≠ 0) : CallS Try.prog 6 [.agg (townC t), slB plan, .bool own, .int .u8 at0, .int .i8 by0] (.bool true) := by
  have hfw := few_c t
  have hsh := short_c plan
  have hA := awake_c
  have hb := fewB_ok hF
  obtain ⟨hP0, hP1, hP2⟩ := shortB_ok hS
  have hfl := fault_c t hb
  have hto := Town_c t hb
  have hpl := Plan_c t hb
  have hfa := Fails_c t hb
  have hpt := planTo_c plan hP0
  have hpr := prove_c t plan hb hP0
  have e1 : planE t = faultT t := by unfold planE; rw [if_pos h0]
  have e2 : planV t = .nils := by unfold planV; rw [e1, if_neg h0]
  have e3 : failsE t = faultT t := by unfold failsE; rw [if_pos h0]
  have e4 : failsN t = 0 := by unfold failsN; rw [if_pos h0]
  have e5 : proveB t plan = false := by simp [proveB, h0]
  have e0 : (faultT t = 0) = False := eq_false h0
  rw [hF] at hfw
  rw [hS] at hsh
  rw [e1, e2] at hpl
  rw [e3, e4] at hfa
  rw [e5] at hpr
  generalize faultT t = x at *
  simp only [slB, townC, slH, slL] at hfw hsh hfl hto hpl hfa hpt hpr ⊢
  (refine callS_of_awp (fun w args => Try.call6 ..) Try.func6 rfl (fun w0 m0 wz => ?_); simp only [Try.ntmps6, Try.results6, initT, junks, homeC, hallC, slH, slL, townC, sl, List.toList_toArray, List.cons_append, List.nil_append, List.length_cons, List.length_nil, Nat.reduceAdd, Nat.reduceSub])
  (repeat' (first
 | ((exfalso; omega))
 | refine awp_seqK ?_
 | refine kt ?_
 | refine And.intro ?_ ?_
 | ((first | refine awp_stp rfl ?_ | refine awp_draw (by kernel_rfl) (by kernel_rfl) ?_ | refine Imp.le2 ?_ | refine callK_of (hfw) ?_ | refine callK_of (hsh) ?_ | refine callK_of (hfl) ?_ | refine callK_of (hto) ?_ | refine callK_of (hpl) ?_ | refine callK_of (hfa) ?_ | refine callK_of (hpt) ?_ | refine callK_of (hpr) ?_ | refine callK_of (hA) ?_ | refine go_split (fun _h => ?_) (fun _h => ?_)) <;> try simp (maxSteps := 4000000) only [go_sem, seval, e0, decide_true, decide_false, Bool.not_false])
 | intro _h
 | refine awp_block ?_
 | refine awp_scope ?_
 | refine cond_b ?_ ?_
 | (show heapOK _ _ = true; kernel_rfl)
 | (show heapOK2 _ _ = true; kernel_rfl)
 | (omega)))
  all_goals first | (rename_i u1; rw [u1] at _h; cases _h) | trace_state
theorem plans_some (t : Town) (plan : List Bus) (own : Bool) (at0 by0 : Int) (hF : fewB t = true) (hS : shortB plan = true) (h0 : faultT t = 0) (n : Nat) (hI : failI t = some n) : CallS Try.prog 6 [.agg (townC t), slB plan, .bool own, .int .u8 at0, .int .i8 by0] (.bool true) := by
  have hfw := few_c t
  have hsh := short_c plan
  have hA := awake_c
  have hb := fewB_ok hF
  have ht := faultT_zero h0
  obtain ⟨hP0, hP1, hP2⟩ := shortB_ok hS
  have hfl := fault_c t hb
  have hto := Town_c t hb
  have hpl := Plan_c t hb
  have hfa := Fails_c t hb
  have hrf := rFails_c t ht
  have hpt := planTo_c plan hP0
  have hpr := prove_c t plan hb hP0
  have hri := rRight_c t plan ht hP0
  obtain ⟨i1, i2, i3⟩ := failI_some.1 hI
  have e1 : failsE t = 0 := by simp [failsE, h0, hI]
  have e2 : failsN t = n := by simp [failsN, h0, hI]
  have e3 : planE t = 9 := by
    rw [planE_few h0, if_pos]
    rcases Int.lt_or_le (fewN t t.homes.length) 1000 with h | h
    · have := few_mono ht (n := n + 1) (by omega) (Nat.le_refl _) h; omega
    · exact h
  have e4 : planV t = .nils := by simp [planV, e3]
  have e5 : proveB t plan = rightB t plan := by simp [proveB, h0]
  have e6 : rFailsN t = n := by simp [rFailsN, hI]
  rw [hF] at hfw
  rw [hS] at hsh
  rw [e3, e4] at hpl
  rw [e1, e2] at hfa
  rw [e5] at hpr
  rw [e6] at hrf
  rw [h0] at hfl
  generalize rightB t plan = r at *
  simp only [slB, townC, slH, slL] at hfw hsh hfl hto hpl hfa hrf hpt hpr hri ⊢
  cases own
  · (refine callS_of_awp (fun w args => Try.call6 ..) Try.func6 rfl (fun w0 m0 wz => ?_); simp only [Try.ntmps6, Try.results6, initT, junks, homeC, hallC, slH, slL, townC, sl, List.toList_toArray, List.cons_append, List.nil_append, List.length_cons, List.length_nil, Nat.reduceAdd, Nat.reduceSub])
    (repeat' (first
 | ((exfalso; omega))
 | refine awp_seqK ?_
 | refine kt ?_
 | refine And.intro ?_ ?_
 | ((first | refine awp_stp rfl ?_ | refine awp_draw (by kernel_rfl) (by kernel_rfl) ?_ | refine Imp.le2 ?_ | refine callK_of (hfw) ?_ | refine callK_of (hsh) ?_ | refine callK_of (hfl) ?_ | refine callK_of (hto) ?_ | refine callK_of (hpl) ?_ | refine callK_of (hfa) ?_ | refine callK_of (hrf) ?_ | refine callK_of (hpt) ?_ | refine callK_of (hpr) ?_ | refine callK_of (hri) ?_ | refine callK_of (hA) ?_ | refine go_split (fun _h => ?_) (fun _h => ?_)) <;> try simp (maxSteps := 4000000) only [go_sem, seval, eqBo, decide_true, decide_false, Bool.not_false])
 | intro _h
 | refine awp_block ?_
 | refine awp_scope ?_
 | refine cond_b ?_ ?_
 | (show heapOK _ _ = true; kernel_rfl)
 | (show heapOK2 _ _ = true; kernel_rfl)
 | (omega)))
    all_goals first | (rename_i u1; rw [u1] at _h; cases _h) | trace_state
  · (refine callS_of_awp (fun w args => Try.call6 ..) Try.func6 rfl (fun w0 m0 wz => ?_); simp only [Try.ntmps6, Try.results6, initT, junks, homeC, hallC, slH, slL, townC, sl, List.toList_toArray, List.cons_append, List.nil_append, List.length_cons, List.length_nil, Nat.reduceAdd, Nat.reduceSub])
    (repeat' (first
 | ((exfalso; omega))
 | refine awp_seqK ?_
 | refine kt ?_
 | refine And.intro ?_ ?_
 | ((first | refine awp_stp rfl ?_ | refine awp_draw (by kernel_rfl) (by kernel_rfl) ?_ | refine Imp.le2 ?_ | refine callK_of (hfw) ?_ | refine callK_of (hsh) ?_ | refine callK_of (hfl) ?_ | refine callK_of (hto) ?_ | refine callK_of (hpl) ?_ | refine callK_of (hfa) ?_ | refine callK_of (hrf) ?_ | refine callK_of (hpt) ?_ | refine callK_of (hpr) ?_ | refine callK_of (hri) ?_ | refine callK_of (hA) ?_ | refine go_split (fun _h => ?_) (fun _h => ?_)) <;> try simp (maxSteps := 4000000) only [go_sem, seval, eqBo, decide_true, decide_false, Bool.not_false])
 | intro _h
 | refine awp_block ?_
 | refine awp_scope ?_
 | refine cond_b ?_ ?_
 | (show heapOK _ _ = true; kernel_rfl)
 | (show heapOK2 _ _ = true; kernel_rfl)
 | (omega)))
    all_goals first | (rename_i u1; rw [u1] at _h; cases _h) | trace_state
end Go.Am

/- The law AwayPlans, as a contract: it returns true. No bus is changed. -/
namespace Go.Am
open Go.RowKit Go.Proofs
attribute [local irreducible] AWP CallS Kt goK CallK stepK evOps SemF SemY Imp
set_option maxRecDepth 4000
set_option linter.unusedSimpArgs false
set_option linter.unusedVariables false
set_option maxHeartbeats 3200000
theorem plans_no (t : Town) (plan : List Bus) (at0 by0 : Int) (hF : fewB t = true) (hS : shortB plan = true) (h0 : faultT t = 0) (hI : failI t = none) : CallS Try.prog 6 [.agg (townC t), slB plan, .bool false, .int .u8 at0, .int .i8 by0] (.bool true) := by
  have hfw := few_c t
  have hsh := short_c plan
  have hA := awake_c
  have hb := fewB_ok hF
  have ht := faultT_zero h0
  have hln := ht.homes
  obtain ⟨hP0, hP1, hP2⟩ := shortB_ok hS
  have hfl := fault_c t hb
  have hto := Town_c t hb
  have hpl := Plan_c t hb
  have hfa := Fails_c t hb
  have hrf := rFails_c t ht
  have hfe := rFew0_c t ht t.homes.length (Nat.le_refl _)
  have hE : planE t = 0 := by
    have := failI_none.1 hI (t.homes.length - 1) (by omega)
    rw [show t.homes.length - 1 + 1 = t.homes.length by omega] at this
    rw [planE_few h0, if_neg (by omega)]
  obtain ⟨hPr, hPl⟩ := plan_right h0 hE
  have hPs := planL_sh2 h0
  have hsum := right_sum ht hPr
  have hbk := back_c (planL t) hPs
  have hrr := rRight_c t (planL t) ht hPs
  have e1 : failsE t = 7 := by simp [failsE, h0, hI]
  have e2 : failsN t = 0 := by simp [failsN, h0, hI]
  have e6 : rFailsN t = -1 := by simp [rFailsN, hI]
  have e7 : fewN t t.homes.length < 1000 := by
    have := failI_none.1 hI (t.homes.length - 1) (by omega)
    rwa [show t.homes.length - 1 + 1 = t.homes.length by omega] at this
  rw [hF] at hfw
  rw [hS] at hsh
  simp only [planV, hE, if_true] at hpl
  rw [e1, e2] at hfa
  rw [e6] at hrf
  rw [h0] at hfl
  rw [if_pos e7, ← hPl] at hfe
  rw [hPr] at hrr
  have hpt := planTo_c plan hP0
  have hpr := prove_c t plan hb hP0
  have hri := rRight_c t plan ht hP0
  have e5 : proveB t plan = rightB t plan := by simp [proveB, h0]
  rw [e5] at hpr
  generalize rightB t plan = r at *
  generalize planL t = P at *
  simp only [slB, townC, slH, slL] at hfw hsh hfl hto hpl hfa hrf hfe hbk hrr hpt hpr hri ⊢
  (refine callS_of_awp (fun w args => Try.call6 ..) Try.func6 rfl (fun w0 m0 wz => ?_); simp only [Try.ntmps6, Try.results6, initT, junks, homeC, hallC, slH, slL, townC, sl, List.toList_toArray, List.cons_append, List.nil_append, List.length_cons, List.length_nil, Nat.reduceAdd, Nat.reduceSub])
  (repeat' (first
 | ((exfalso; omega))
 | refine awp_seqK ?_
 | refine kt ?_
 | refine And.intro ?_ ?_
 | ((first | refine awp_stp rfl ?_ | refine awp_draw (by kernel_rfl) (by kernel_rfl) ?_ | refine Imp.le2 ?_ | refine callK_of (hfw) ?_ | refine callK_of (hsh) ?_ | refine callK_of (hfl) ?_ | refine callK_of (hto) ?_ | refine callK_of (hpl) ?_ | refine callK_of (hfa) ?_ | refine callK_of (hrf) ?_ | refine callK_of (CallS.sub (hfe) (by simp [subL, avSub])) ?_ | refine callK_of (hbk) ?_ | refine callK_of (hrr) ?_ | refine callK_of (hpt) ?_ | refine callK_of (hpr) ?_ | refine callK_of (hri) ?_ | refine callK_of (hA) ?_ | refine go_split (fun _h => ?_) (fun _h => ?_)) <;> try simp (maxSteps := 4000000) only [go_sem, seval, eqBo, decide_true, decide_false, Bool.not_false, Bool.not_true])
 | intro _h
 | refine awp_block ?_
 | refine awp_scope ?_
 | refine cond_b ?_ ?_
 | (show heapOK _ _ = true; kernel_rfl)
 | (show heapOK2 _ _ = true; kernel_rfl)
 | (omega)))
  all_goals first | (rename_i u1; rw [u1] at _h; cases _h) | trace_state
end Go.Am

/- The law AwayPlans, as a contract: it returns true. A bus of the program's own plan is changed. -/
namespace Go.Am
open Go.RowKit Go.Proofs
attribute [local irreducible] AWP CallS Kt goK CallK stepK evOps SemF SemY Imp
set_option maxRecDepth 4000
set_option linter.unusedSimpArgs false
set_option linter.unusedVariables false
set_option maxHeartbeats 3200000
theorem plans_1 (t : Town) (plan : List Bus) (at0 by0 : Int) (ha : 0 ≤ at0 ∧ at0 ≤ 255) (hF : fewB t = true) (hS : shortB plan = true) (h0 : faultT t = 0) (hI : failI t = none) (hc : by0.tmod 4 = 1) : CallS Try.prog 6 [.agg (townC t), slB plan, .bool true, .int .u8 at0, .int .i8 by0] (.bool true) := by
  have hfw := few_c t
  have hsh := short_c plan
  have hA := awake_c
  have hb := fewB_ok hF
  have ht := faultT_zero h0
  have hln := ht.homes
  obtain ⟨hP0, hP1, hP2⟩ := shortB_ok hS
  have hfl := fault_c t hb
  have hto := Town_c t hb
  have hpl := Plan_c t hb
  have hfa := Fails_c t hb
  have hrf := rFails_c t ht
  have hfe := rFew0_c t ht t.homes.length (Nat.le_refl _)
  have hE : planE t = 0 := by
    have := failI_none.1 hI (t.homes.length - 1) (by omega)
    rw [show t.homes.length - 1 + 1 = t.homes.length by omega] at this
    rw [planE_few h0, if_neg (by omega)]
  obtain ⟨hPr, hPl⟩ := plan_right h0 hE
  have hPs := planL_sh2 h0
  have hsum := right_sum ht hPr
  have hbk := back_c (planL t) hPs
  have hrr := rRight_c t (planL t) ht hPs
  have e1 : failsE t = 7 := by simp [failsE, h0, hI]
  have e2 : failsN t = 0 := by simp [failsN, h0, hI]
  have e6 : rFailsN t = -1 := by simp [rFailsN, hI]
  have e7 : fewN t t.homes.length < 1000 := by
    have := failI_none.1 hI (t.homes.length - 1) (by omega)
    rwa [show t.homes.length - 1 + 1 = t.homes.length by omega] at this
  rw [hF] at hfw
  rw [hS] at hsh
  simp only [planV, hE, if_true] at hpl
  rw [e1, e2] at hfa
  rw [e6] at hrf
  rw [h0] at hfl
  rw [if_pos e7, ← hPl] at hfe
  rw [hPr] at hrr
  have hone := ((refR_iff ht).1 hPr).one
  have hbo := back_o (planL t) hPs
  have hrn := fun σ => ren_bus (σ := σ) (planL t)
  generalize planL t = P at *
  have g1 : (0 < (P.length : Int)) = True := eq_true (by omega)
  have g2 : ((P.length : Int) ≤ 8) = True := eq_true (by omega)
  obtain ⟨q, hqn, hqe⟩ := at_mod (n := P.length) ha.1 (by omega)
  have hOq := hone q hqn
  obtain ⟨b, hbq⟩ : ∃ b, P.getD q default = b := ⟨_, rfl⟩
  rw [hbq] at hOq
  have hlv := hOq.1.leave
  have hbl : 0 < b.homes.length := List.length_pos_iff.2 hOq.1.some
  have hbs := rise_le hOq
  have h5 := tmod_bd (b := 5) ha.1 (by decide)
  obtain ⟨b1, hb1⟩ : ∃ b1 : Bus, b1 = ⟨b.leave + (at0.tmod 5 - 2), b.hall, b.homes⟩ := ⟨_, rfl⟩
  have hsp : splice (recs busC P) (q * 3 + 0) [.int .i64 (b.leave + (at0.tmod 5 - 2))] = recs busC (isp P q b1) := sp_recs (d := default) (sz := 3) (fun _ => rfl) hqn (by omega) (by rw [hbq, hb1]; rfl)
  rw [Nat.add_zero] at hsp
  have hHl : (isp P q b1).length = P.length := isp_length hqn
  have hPS1 : PlanS (isp P q b1) := by
    refine ⟨by rw [hHl]; exact hPs.1, fun x hx => ?_⟩
    rw [isp_set hqn] at hx
    rcases List.mem_or_eq_of_mem_set hx with h | h
    · exact hPs.2 x h
    · rw [h, hb1]; simp; omega
  generalize isp P q b1 = P1 at *
  have hpt := planTo_c P1 hPS1
  have hpr := prove_c t P1 hb hPS1
  have hri := rRight_c t P1 ht hPS1
  have e5 : proveB t P1 = rightB t P1 := by simp [proveB, h0]
  rw [e5] at hpr
  generalize rightB t P1 = r at *
  have hpu : pureL (recs busC P1) = True := eq_true (recs_pure fun b => by simp [pureL, busC, sl, cellPure])
  simp only [slB, townC, slH, slL] at hfw hsh hfl hto hpl hfa hrf hfe hbk hrr hbo hpt hpr hri ⊢
  rw [hHl] at hpt hpr hri
  (refine callS_of_awp (fun w args => Try.call6 ..) Try.func6 rfl (fun w0 m0 wz => ?_); simp only [Try.ntmps6, Try.results6, initT, junks, homeC, hallC, slH, slL, townC, sl, List.toList_toArray, List.cons_append, List.nil_append, List.length_cons, List.length_nil, Nat.reduceAdd, Nat.reduceSub])
  (repeat' (first
 | (refine awp_ownN (id := 15) 1 rfl ?_; simp (maxSteps := 4000000) only [go_sem, seval, List.take_succ_cons, List.take_zero, eqBo, g1, g2, hqe, hrn, hc, hpu, hsp, hbq, decide_true, decide_false, Bool.not_false, Bool.not_true])
 | (refine own_go (hbo) [] rfl ?_ ?_ rfl ?_ <;> try simp (maxSteps := 4000000) only [go_sem, seval, Nat.lt_irrefl, eqBo, g1, g2, hqe, hrn, hc, hpu, hsp, hbq, decide_true, decide_false, Bool.not_false, Bool.not_true] <;> try decide)
 | (refine awp_frz (c := .region 24 _ _) 1 rfl (by simp (maxSteps := 4000000) only [go_sem, seval, eqBo, g1, g2, hqe, hrn, hc, hpu, hsp, hbq, decide_true, decide_false, Bool.not_false, Bool.not_true]) (fun _ => rfl) ?_; simp only [frz, fq_pure, fzB_c, fzB_m, fzB_d, fzB_l, fzO, fzH, fzHs, fzl, fz2, fz1, fz0, List.map_cons, List.map_nil, if_true, if_false, reduceIte, Nat.reduceEqDiff, Nat.reduceAdd, Nat.succ_ne_self, Nat.zero_ne_one, Nat.one_ne_zero, reduceCtorEq, and_self])
 | ((exfalso; omega))
 | ((omega))
 | refine awp_seqK ?_
 | refine kt ?_
 | refine And.intro ?_ ?_
 | ((first | refine awp_stp rfl ?_ | refine awp_draw (by kernel_rfl) (by kernel_rfl) ?_ | refine Imp.le2 ?_ | refine callK_of (hfw) ?_ | refine callK_of (hsh) ?_ | refine callK_of (hfl) ?_ | refine callK_of (hto) ?_ | refine callK_of (hpl) ?_ | refine callK_of (hfa) ?_ | refine callK_of (hrf) ?_ | refine callK_of (CallS.sub (hfe) (by simp [subL, avSub])) ?_ | refine callK_of (hbk) ?_ | refine callK_of (hrr) ?_ | refine callK_of (hpt) ?_ | refine callK_of (hpr) ?_ | refine callK_of (hri) ?_ | refine callK_of (hA) ?_ | refine go_split (fun _h => ?_) (fun _h => ?_)) <;> try simp (maxSteps := 4000000) only [go_sem, seval, eqBo, g1, g2, hqe, hrn, hc, hpu, hsp, hbq, decide_true, decide_false, Bool.not_false, Bool.not_true])
 | intro _h
 | refine awp_block ?_
 | refine awp_scope ?_
 | refine cond_b ?_ ?_
 | (show heapOK _ _ = true; kernel_rfl)
 | (show heapOK2 _ _ = true; kernel_rfl)
 | (omega)))
  all_goals first | (rename_i u1; rw [u1] at _h; cases _h) | trace_state
theorem plans_2 (t : Town) (plan : List Bus) (at0 by0 : Int) (ha : 0 ≤ at0 ∧ at0 ≤ 255) (hF : fewB t = true) (hS : shortB plan = true) (h0 : faultT t = 0) (hI : failI t = none) (hc : by0.tmod 4 = 2) : CallS Try.prog 6 [.agg (townC t), slB plan, .bool true, .int .u8 at0, .int .i8 by0] (.bool true) := by
  have hfw := few_c t
  have hsh := short_c plan
  have hA := awake_c
  have hb := fewB_ok hF
  have ht := faultT_zero h0
  have hln := ht.homes
  obtain ⟨hP0, hP1, hP2⟩ := shortB_ok hS
  have hfl := fault_c t hb
  have hto := Town_c t hb
  have hpl := Plan_c t hb
  have hfa := Fails_c t hb
  have hrf := rFails_c t ht
  have hfe := rFew0_c t ht t.homes.length (Nat.le_refl _)
  have hE : planE t = 0 := by
    have := failI_none.1 hI (t.homes.length - 1) (by omega)
    rw [show t.homes.length - 1 + 1 = t.homes.length by omega] at this
    rw [planE_few h0, if_neg (by omega)]
  obtain ⟨hPr, hPl⟩ := plan_right h0 hE
  have hPs := planL_sh2 h0
  have hsum := right_sum ht hPr
  have hbk := back_c (planL t) hPs
  have hrr := rRight_c t (planL t) ht hPs
  have e1 : failsE t = 7 := by simp [failsE, h0, hI]
  have e2 : failsN t = 0 := by simp [failsN, h0, hI]
  have e6 : rFailsN t = -1 := by simp [rFailsN, hI]
  have e7 : fewN t t.homes.length < 1000 := by
    have := failI_none.1 hI (t.homes.length - 1) (by omega)
    rwa [show t.homes.length - 1 + 1 = t.homes.length by omega] at this
  rw [hF] at hfw
  rw [hS] at hsh
  simp only [planV, hE, if_true] at hpl
  rw [e1, e2] at hfa
  rw [e6] at hrf
  rw [h0] at hfl
  rw [if_pos e7, ← hPl] at hfe
  rw [hPr] at hrr
  have hone := ((refR_iff ht).1 hPr).one
  have hbo := back_o (planL t) hPs
  have hrn := fun σ => ren_bus (σ := σ) (planL t)
  generalize planL t = P at *
  have g1 : (0 < (P.length : Int)) = True := eq_true (by omega)
  have g2 : ((P.length : Int) ≤ 8) = True := eq_true (by omega)
  obtain ⟨q, hqn, hqe⟩ := at_mod (n := P.length) ha.1 (by omega)
  have hOq := hone q hqn
  obtain ⟨b, hbq⟩ : ∃ b, P.getD q default = b := ⟨_, rfl⟩
  rw [hbq] at hOq
  have hlv := hOq.1.leave
  have hbl : 0 < b.homes.length := List.length_pos_iff.2 hOq.1.some
  have hbs := rise_le hOq
  obtain ⟨b1, hb1⟩ : ∃ b1 : Bus, b1 = ⟨b.leave, at0.tmod 3, b.homes⟩ := ⟨_, rfl⟩
  have hsp : splice (recs busC P) (q * 3 + 1) [.int .i64 (at0.tmod 3)] = recs busC (isp P q b1) := sp_recs (d := default) (sz := 3) (fun _ => rfl) hqn (by omega) (by rw [hbq, hb1]; rfl)
  have hHl : (isp P q b1).length = P.length := isp_length hqn
  have hPS1 : PlanS (isp P q b1) := by
    refine ⟨by rw [hHl]; exact hPs.1, fun x hx => ?_⟩
    rw [isp_set hqn] at hx
    rcases List.mem_or_eq_of_mem_set hx with h | h
    · exact hPs.2 x h
    · rw [h, hb1]; simp; omega
  generalize isp P q b1 = P1 at *
  have hpt := planTo_c P1 hPS1
  have hpr := prove_c t P1 hb hPS1
  have hri := rRight_c t P1 ht hPS1
  have e5 : proveB t P1 = rightB t P1 := by simp [proveB, h0]
  rw [e5] at hpr
  generalize rightB t P1 = r at *
  have hpu : pureL (recs busC P1) = True := eq_true (recs_pure fun b => by simp [pureL, busC, sl, cellPure])
  simp only [slB, townC, slH, slL] at hfw hsh hfl hto hpl hfa hrf hfe hbk hrr hbo hpt hpr hri ⊢
  rw [hHl] at hpt hpr hri
  (refine callS_of_awp (fun w args => Try.call6 ..) Try.func6 rfl (fun w0 m0 wz => ?_); simp only [Try.ntmps6, Try.results6, initT, junks, homeC, hallC, slH, slL, townC, sl, List.toList_toArray, List.cons_append, List.nil_append, List.length_cons, List.length_nil, Nat.reduceAdd, Nat.reduceSub])
  (repeat' (first
 | (refine awp_ownN (id := 15) 1 rfl ?_; simp (maxSteps := 4000000) only [go_sem, seval, List.take_succ_cons, List.take_zero, eqBo, g1, g2, hqe, hrn, hc, hpu, hsp, hbq, decide_true, decide_false, Bool.not_false, Bool.not_true])
 | (refine own_go (hbo) [] rfl ?_ ?_ rfl ?_ <;> try simp (maxSteps := 4000000) only [go_sem, seval, Nat.lt_irrefl, eqBo, g1, g2, hqe, hrn, hc, hpu, hsp, hbq, decide_true, decide_false, Bool.not_false, Bool.not_true] <;> try decide)
 | (refine awp_frz (c := .region 24 _ _) 1 rfl (by simp (maxSteps := 4000000) only [go_sem, seval, eqBo, g1, g2, hqe, hrn, hc, hpu, hsp, hbq, decide_true, decide_false, Bool.not_false, Bool.not_true]) (fun _ => rfl) ?_; simp only [frz, fq_pure, fzB_c, fzB_m, fzB_d, fzB_l, fzO, fzH, fzHs, fzl, fz2, fz1, fz0, List.map_cons, List.map_nil, if_true, if_false, reduceIte, Nat.reduceEqDiff, Nat.reduceAdd, Nat.succ_ne_self, Nat.zero_ne_one, Nat.one_ne_zero, reduceCtorEq, and_self])
 | ((exfalso; omega))
 | ((omega))
 | refine awp_seqK ?_
 | refine kt ?_
 | refine And.intro ?_ ?_
 | ((first | refine awp_stp rfl ?_ | refine awp_draw (by kernel_rfl) (by kernel_rfl) ?_ | refine Imp.le2 ?_ | refine callK_of (hfw) ?_ | refine callK_of (hsh) ?_ | refine callK_of (hfl) ?_ | refine callK_of (hto) ?_ | refine callK_of (hpl) ?_ | refine callK_of (hfa) ?_ | refine callK_of (hrf) ?_ | refine callK_of (CallS.sub (hfe) (by simp [subL, avSub])) ?_ | refine callK_of (hbk) ?_ | refine callK_of (hrr) ?_ | refine callK_of (hpt) ?_ | refine callK_of (hpr) ?_ | refine callK_of (hri) ?_ | refine callK_of (hA) ?_ | refine go_split (fun _h => ?_) (fun _h => ?_)) <;> try simp (maxSteps := 4000000) only [go_sem, seval, eqBo, g1, g2, hqe, hrn, hc, hpu, hsp, hbq, decide_true, decide_false, Bool.not_false, Bool.not_true])
 | intro _h
 | refine awp_block ?_
 | refine awp_scope ?_
 | refine cond_b ?_ ?_
 | (show heapOK _ _ = true; kernel_rfl)
 | (show heapOK2 _ _ = true; kernel_rfl)
 | (omega)))
  all_goals first | (rename_i u1; rw [u1] at _h; cases _h) | trace_state
theorem plans_3 (t : Town) (plan : List Bus) (at0 by0 : Int) (ha : 0 ≤ at0 ∧ at0 ≤ 255) (hF : fewB t = true) (hS : shortB plan = true) (h0 : faultT t = 0) (hI : failI t = none) (hc : by0.tmod 4 = 3) : CallS Try.prog 6 [.agg (townC t), slB plan, .bool true, .int .u8 at0, .int .i8 by0] (.bool true) := by
  have hfw := few_c t
  have hsh := short_c plan
  have hA := awake_c
  have hb := fewB_ok hF
  have ht := faultT_zero h0
  have hln := ht.homes
  obtain ⟨hP0, hP1, hP2⟩ := shortB_ok hS
  have hfl := fault_c t hb
  have hto := Town_c t hb
  have hpl := Plan_c t hb
  have hfa := Fails_c t hb
  have hrf := rFails_c t ht
  have hfe := rFew0_c t ht t.homes.length (Nat.le_refl _)
  have hE : planE t = 0 := by
    have := failI_none.1 hI (t.homes.length - 1) (by omega)
    rw [show t.homes.length - 1 + 1 = t.homes.length by omega] at this
    rw [planE_few h0, if_neg (by omega)]
  obtain ⟨hPr, hPl⟩ := plan_right h0 hE
  have hPs := planL_sh2 h0
  have hsum := right_sum ht hPr
  have hbk := back_c (planL t) hPs
  have hrr := rRight_c t (planL t) ht hPs
  have e1 : failsE t = 7 := by simp [failsE, h0, hI]
  have e2 : failsN t = 0 := by simp [failsN, h0, hI]
  have e6 : rFailsN t = -1 := by simp [rFailsN, hI]
  have e7 : fewN t t.homes.length < 1000 := by
    have := failI_none.1 hI (t.homes.length - 1) (by omega)
    rwa [show t.homes.length - 1 + 1 = t.homes.length by omega] at this
  rw [hF] at hfw
  rw [hS] at hsh
  simp only [planV, hE, if_true] at hpl
  rw [e1, e2] at hfa
  rw [e6] at hrf
  rw [h0] at hfl
  rw [if_pos e7, ← hPl] at hfe
  rw [hPr] at hrr
  have hone := ((refR_iff ht).1 hPr).one
  have hbo := back_o (planL t) hPs
  have hrn := fun σ => ren_bus (σ := σ) (planL t)
  generalize planL t = P at *
  have g1 : (0 < (P.length : Int)) = True := eq_true (by omega)
  have g2 : ((P.length : Int) ≤ 8) = True := eq_true (by omega)
  obtain ⟨q, hqn, hqe⟩ := at_mod (n := P.length) ha.1 (by omega)
  have hOq := hone q hqn
  obtain ⟨b, hbq⟩ : ∃ b, P.getD q default = b := ⟨_, rfl⟩
  rw [hbq] at hOq
  have hlv := hOq.1.leave
  have hbl : 0 < b.homes.length := List.length_pos_iff.2 hOq.1.some
  have hbs := rise_le hOq
  have hn3 : ((b.homes.length : Int) - 1).toNat = b.homes.length - 1 := by omega
  have hw3 : window (ints b.homes) 1 (b.homes.length - 1) = ints (b.homes.drop 1) := by
    simp only [window, ints, ← List.map_drop]
    exact List.take_of_length_le (by simp)
  obtain ⟨b1, hb1⟩ : ∃ b1 : Bus, b1 = ⟨b.leave, b.hall, b.homes.drop 1⟩ := ⟨_, rfl⟩
  have hsp : splice (recs busC P) (q * 3 + 2) [.psl false (b.homes.length - 1) (ints (b.homes.drop 1))] = recs busC (isp P q b1) := sp_recs (d := default) (sz := 3) (fun _ => rfl) hqn (by omega) (by rw [hbq, hb1]; simp [busC, sl, splice])
  have hHl : (isp P q b1).length = P.length := isp_length hqn
  have hPS1 : PlanS (isp P q b1) := by
    refine ⟨by rw [hHl]; exact hPs.1, fun x hx => ?_⟩
    rw [isp_set hqn] at hx
    rcases List.mem_or_eq_of_mem_set hx with h | h
    · exact hPs.2 x h
    · rw [h, hb1]; simp; omega
  generalize isp P q b1 = P1 at *
  have hpt := planTo_c P1 hPS1
  have hpr := prove_c t P1 hb hPS1
  have hri := rRight_c t P1 ht hPS1
  have e5 : proveB t P1 = rightB t P1 := by simp [proveB, h0]
  rw [e5] at hpr
  generalize rightB t P1 = r at *
  have hpu : pureL (recs busC P1) = True := eq_true (recs_pure fun b => by simp [pureL, busC, sl, cellPure])
  simp only [slB, townC, slH, slL] at hfw hsh hfl hto hpl hfa hrf hfe hbk hrr hbo hpt hpr hri ⊢
  rw [hHl] at hpt hpr hri
  (refine callS_of_awp (fun w args => Try.call6 ..) Try.func6 rfl (fun w0 m0 wz => ?_); simp only [Try.ntmps6, Try.results6, initT, junks, homeC, hallC, slH, slL, townC, sl, List.toList_toArray, List.cons_append, List.nil_append, List.length_cons, List.length_nil, Nat.reduceAdd, Nat.reduceSub])
  (repeat' (first
 | (refine awp_ownN (id := 15) 1 rfl ?_; simp (maxSteps := 4000000) only [go_sem, seval, List.take_succ_cons, List.take_zero, eqBo, g1, g2, hqe, hrn, hc, hpu, hsp, hbq, hn3, hw3, decide_true, decide_false, Bool.not_false, Bool.not_true])
 | (refine own_go (hbo) [] rfl ?_ ?_ rfl ?_ <;> try simp (maxSteps := 4000000) only [go_sem, seval, Nat.lt_irrefl, eqBo, g1, g2, hqe, hrn, hc, hpu, hsp, hbq, hn3, hw3, decide_true, decide_false, Bool.not_false, Bool.not_true] <;> try decide)
 | (refine awp_frz (c := .region 24 _ _) 1 rfl (by simp (maxSteps := 4000000) only [go_sem, seval, eqBo, g1, g2, hqe, hrn, hc, hpu, hsp, hbq, hn3, hw3, decide_true, decide_false, Bool.not_false, Bool.not_true]) (fun _ => rfl) ?_; simp only [frz, fq_pure, fzB_c, fzB_m, fzB_d, fzB_l, fzO, fzH, fzHs, fzl, fz2, fz1, fz0, List.map_cons, List.map_nil, if_true, if_false, reduceIte, Nat.reduceEqDiff, Nat.reduceAdd, Nat.succ_ne_self, Nat.zero_ne_one, Nat.one_ne_zero, reduceCtorEq, and_self])
 | ((exfalso; omega))
 | ((omega))
 | refine awp_seqK ?_
 | refine kt ?_
 | refine And.intro ?_ ?_
 | ((first | refine awp_stp rfl ?_ | refine awp_draw (by kernel_rfl) (by kernel_rfl) ?_ | refine Imp.le2 ?_ | refine callK_of (hfw) ?_ | refine callK_of (hsh) ?_ | refine callK_of (hfl) ?_ | refine callK_of (hto) ?_ | refine callK_of (hpl) ?_ | refine callK_of (hfa) ?_ | refine callK_of (hrf) ?_ | refine callK_of (CallS.sub (hfe) (by simp [subL, avSub])) ?_ | refine callK_of (hbk) ?_ | refine callK_of (hrr) ?_ | refine callK_of (hpt) ?_ | refine callK_of (hpr) ?_ | refine callK_of (hri) ?_ | refine callK_of (hA) ?_ | refine go_split (fun _h => ?_) (fun _h => ?_)) <;> try simp (maxSteps := 4000000) only [go_sem, seval, eqBo, g1, g2, hqe, hrn, hc, hpu, hsp, hbq, hn3, hw3, decide_true, decide_false, Bool.not_false, Bool.not_true])
 | intro _h
 | refine awp_block ?_
 | refine awp_scope ?_
 | refine cond_b ?_ ?_
 | (show heapOK _ _ = true; kernel_rfl)
 | (show heapOK2 _ _ = true; kernel_rfl)
 | (omega)))
  all_goals first | (rename_i u1; rw [u1] at _h; cases _h) | trace_state
theorem plans_4 (t : Town) (plan : List Bus) (at0 by0 : Int) (ha : 0 ≤ at0 ∧ at0 ≤ 255) (hF : fewB t = true) (hS : shortB plan = true) (h0 : faultT t = 0) (hI : failI t = none) (hc1 : by0.tmod 4 ≠ 1) (hc2 : by0.tmod 4 ≠ 2) (hc3 : by0.tmod 4 ≠ 3) : CallS Try.prog 6 [.agg (townC t), slB plan, .bool true, .int .u8 at0, .int .i8 by0] (.bool true) := by
  have hfw := few_c t
  have hsh := short_c plan
  have hA := awake_c
  have hb := fewB_ok hF
  have ht := faultT_zero h0
  have hln := ht.homes
  obtain ⟨hP0, hP1, hP2⟩ := shortB_ok hS
  have hfl := fault_c t hb
  have hto := Town_c t hb
  have hpl := Plan_c t hb
  have hfa := Fails_c t hb
  have hrf := rFails_c t ht
  have hfe := rFew0_c t ht t.homes.length (Nat.le_refl _)
  have hE : planE t = 0 := by
    have := failI_none.1 hI (t.homes.length - 1) (by omega)
    rw [show t.homes.length - 1 + 1 = t.homes.length by omega] at this
    rw [planE_few h0, if_neg (by omega)]
  obtain ⟨hPr, hPl⟩ := plan_right h0 hE
  have hPs := planL_sh2 h0
  have hsum := right_sum ht hPr
  have hbk := back_c (planL t) hPs
  have hrr := rRight_c t (planL t) ht hPs
  have e1 : failsE t = 7 := by simp [failsE, h0, hI]
  have e2 : failsN t = 0 := by simp [failsN, h0, hI]
  have e6 : rFailsN t = -1 := by simp [rFailsN, hI]
  have e7 : fewN t t.homes.length < 1000 := by
    have := failI_none.1 hI (t.homes.length - 1) (by omega)
    rwa [show t.homes.length - 1 + 1 = t.homes.length by omega] at this
  rw [hF] at hfw
  rw [hS] at hsh
  simp only [planV, hE, if_true] at hpl
  rw [e1, e2] at hfa
  rw [e6] at hrf
  rw [h0] at hfl
  rw [if_pos e7, ← hPl] at hfe
  rw [hPr] at hrr
  have hone := ((refR_iff ht).1 hPr).one
  have hbo := back_o (planL t) hPs
  have hrn := fun σ => ren_bus (σ := σ) (planL t)
  generalize planL t = P at *
  have g1 : (0 < (P.length : Int)) = True := eq_true (by omega)
  have g2 : ((P.length : Int) ≤ 8) = True := eq_true (by omega)
  obtain ⟨q, hqn, hqe⟩ := at_mod (n := P.length) ha.1 (by omega)
  have hpt := planTo_c P hPs
  have hpr := prove_c t P hb hPs
  have e5 : proveB t P = rightB t P := by simp [proveB, h0]
  rw [e5, hPr] at hpr
  have hri := hrr
  have hpu : pureL (recs busC P) = True := eq_true (recs_pure fun b => by simp [pureL, busC, sl, cellPure])
  simp only [slB, townC, slH, slL] at hfw hsh hfl hto hpl hfa hrf hfe hbk hrr hbo hpt hpr hri ⊢
  (refine callS_of_awp (fun w args => Try.call6 ..) Try.func6 rfl (fun w0 m0 wz => ?_); simp only [Try.ntmps6, Try.results6, initT, junks, homeC, hallC, slH, slL, townC, sl, List.toList_toArray, List.cons_append, List.nil_append, List.length_cons, List.length_nil, Nat.reduceAdd, Nat.reduceSub])
  (repeat' (first
 | (refine awp_ownN (id := 15) 1 rfl ?_; simp (maxSteps := 4000000) only [go_sem, seval, List.take_succ_cons, List.take_zero, eqBo, g1, g2, hqe, hrn, eq_false hc1, eq_false hc2, eq_false hc3, hpu, decide_true, decide_false, Bool.not_false, Bool.not_true])
 | (refine own_go (hbo) [] rfl ?_ ?_ rfl ?_ <;> try simp (maxSteps := 4000000) only [go_sem, seval, Nat.lt_irrefl, eqBo, g1, g2, hqe, hrn, eq_false hc1, eq_false hc2, eq_false hc3, hpu, decide_true, decide_false, Bool.not_false, Bool.not_true] <;> try decide)
 | (refine awp_frz (c := .region 24 _ _) 1 rfl (by simp (maxSteps := 4000000) only [go_sem, seval, eqBo, g1, g2, hqe, hrn, eq_false hc1, eq_false hc2, eq_false hc3, hpu, decide_true, decide_false, Bool.not_false, Bool.not_true]) (fun _ => rfl) ?_; simp only [frz, fq_pure, fzB_c, fzB_m, fzB_d, fzB_l, fzO, fzH, fzHs, fzl, fz2, fz1, fz0, List.map_cons, List.map_nil, if_true, if_false, reduceIte, Nat.reduceEqDiff, Nat.reduceAdd, Nat.succ_ne_self, Nat.zero_ne_one, Nat.one_ne_zero, reduceCtorEq, and_self])
 | ((exfalso; omega))
 | ((omega))
 | refine awp_seqK ?_
 | refine kt ?_
 | refine And.intro ?_ ?_
 | ((first | refine awp_stp rfl ?_ | refine awp_draw (by kernel_rfl) (by kernel_rfl) ?_ | refine Imp.le2 ?_ | refine callK_of (hfw) ?_ | refine callK_of (hsh) ?_ | refine callK_of (hfl) ?_ | refine callK_of (hto) ?_ | refine callK_of (hpl) ?_ | refine callK_of (hfa) ?_ | refine callK_of (hrf) ?_ | refine callK_of (CallS.sub (hfe) (by simp [subL, avSub])) ?_ | refine callK_of (hbk) ?_ | refine callK_of (hrr) ?_ | refine callK_of (hpt) ?_ | refine callK_of (hpr) ?_ | refine callK_of (hri) ?_ | refine callK_of (hA) ?_ | refine go_split (fun _h => ?_) (fun _h => ?_)) <;> try simp (maxSteps := 4000000) only [go_sem, seval, eqBo, g1, g2, hqe, hrn, eq_false hc1, eq_false hc2, eq_false hc3, hpu, decide_true, decide_false, Bool.not_false, Bool.not_true])
 | intro _h
 | refine awp_block ?_
 | refine awp_scope ?_
 | refine cond_b ?_ ?_
 | (show heapOK _ _ = true; kernel_rfl)
 | (show heapOK2 _ _ = true; kernel_rfl)
 | (omega)))
  all_goals first | (rename_i u1; rw [u1] at _h; cases _h) | trace_state
theorem awayPlans_c (t : Town) (plan : List Bus) (own : Bool) (at0 by0 : Int) (ha : 0 ≤ at0 ∧ at0 ≤ 255) (hy : -128 ≤ by0 ∧ by0 ≤ 127) : CallS Try.prog 6 [.agg (townC t), slB plan, .bool own, .int .u8 at0, .int .i8 by0] (.bool true) := by
  cases hF : fewB t with
  | false => exact plans_off t plan own at0 by0 hF
  | true =>
    cases hS : shortB plan with
    | false => exact plans_long t plan own at0 by0 hF hS
    | true =>
      by_cases h0 : faultT t = 0
      · cases hI : failI t with
        | some n => exact plans_some t plan own at0 by0 hF hS h0 n hI
        | none =>
          cases own
          · exact plans_no t plan at0 by0 hF hS h0 hI
          · by_cases c1 : by0.tmod 4 = 1
            · exact plans_1 t plan at0 by0 ha hF hS h0 hI c1
            · by_cases c2 : by0.tmod 4 = 2
              · exact plans_2 t plan at0 by0 ha hF hS h0 hI c2
              · by_cases c3 : by0.tmod 4 = 3
                · exact plans_3 t plan at0 by0 ha hF hS h0 hI c3
                · exact plans_4 t plan at0 by0 ha hF hS h0 hI c1 c2 c3
      · exact plans_bad t plan own at0 by0 hF hS h0
end Go.Am
