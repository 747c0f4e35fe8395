/- Parts TlA of the proof, one behind the other. No statement is proved here. -/
import Derived.Test.YtghlpjfpfjpddaaD6
/- The law AwayFails, as a contract: it returns true. -/
namespace Go.Am
open Go.RowKit Go.Proofs
attribute [local irreducible] AWP CallS Kt goK CallK stepK evOps SemF SemY Imp
set_option maxRecDepth 4000
set_option linter.unusedSimpArgs false
set_option linter.unusedVariables false
set_option maxHeartbeats 3200000

theorem readyB_ok {t : Town} (h : readyB t = true) : townOK t ∧ faultT t = 0 := by
  simp only [readyB, Bool.and_eq_true, decide_eq_true_eq] at h
  exact ⟨(thinB_ok h.1).1, h.2⟩
theorem window_H {l : List Home} {n : Nat} : window (recs homeC l) (0 * 6) (n * 6) = recs homeC (l.take n) := by
  simp only [window, Nat.zero_mul, List.drop_zero]
  induction l generalizing n with
  | nil => simp [recs]
  | cons a l ih =>
    cases n with
    | zero => simp [recs]
    | succ n =>
      have e : recs homeC (a :: l) = homeC a ++ recs homeC l := by simp [recs]
      have e2 : recs homeC ((a :: l).take (n + 1)) = homeC a ++ recs homeC (l.take n) := by simp [recs]
      rw [e, e2, List.take_append, List.take_of_length_le (by simp [homeC]; omega)]
      congr 1
      rw [← ih]
      congr 1
      simp [homeC]; omega
theorem awayFails_c (t : Town) (plan : List Bus) : CallS Try.prog 7 [.agg (townC t), slB plan] (.bool true) := by
  have hre := ready_c t
  have hsh := short_c plan
  have hA := awake_c
  cases hR : readyB t with
  | false =>
    rw [hR] at hre
    simp only [slB, townC, slH, slL] at hre ⊢
    (refine callS_of_awp (fun w args => Try.call7 ..) Try.func7 rfl (fun w0 m0 wz => ?_); simp only [Try.ntmps7, Try.results7, initT, junks, homeC, hallC, slH, slL, townC, sl, List.toList_toArray, List.cons_append, List.nil_append, List.length_cons, List.length_nil, Nat.reduceAdd, Nat.reduceSub])
    (repeat' (first
    | (refine awp_seqK ?_)
    | (refine kt ?_)
    | (refine And.intro ?_ ?_)
    | ((first | refine awp_region ?_ | refine awp_draw (by kernel_rfl) (by kernel_rfl) ?_ | refine Imp.le2 ?_ | refine awp_label ?_ | refine awp_skip ?_ | refine awp_exit ?_ | refine awp_cd ?_ | refine awp_ret ?_ | refine callK_of (hre) ?_ | refine callK_of (hA) ?_ | refine go_split (fun _h => ?_) (fun _h => ?_)) <;> try simp (maxSteps := 4000000) only [go_sem, seval])
    | (intro _h)
    | (refine awp_block ?_)
    | (refine awp_scope ?_)
    | (refine cond_b (fun _h => ?_) (fun _h => ?_))
    | (show heapOK _ _ = true; kernel_rfl)
    | (show heapOK2 _ _ = true; kernel_rfl)
    | (omega)))
  | true =>
    rw [hR] at hre
    cases hS : shortB plan with
    | false =>
      rw [hS] at hsh
      simp only [slB, townC, slH, slL] at hre hsh ⊢
      (refine callS_of_awp (fun w args => Try.call7 ..) Try.func7 rfl (fun w0 m0 wz => ?_); simp only [Try.ntmps7, Try.results7, initT, junks, homeC, hallC, slH, slL, townC, sl, List.toList_toArray, List.cons_append, List.nil_append, List.length_cons, List.length_nil, Nat.reduceAdd, Nat.reduceSub])
      (repeat' (first
    | (refine awp_seqK ?_)
    | (refine kt ?_)
    | (refine And.intro ?_ ?_)
    | ((first | refine awp_region ?_ | refine awp_draw (by kernel_rfl) (by kernel_rfl) ?_ | refine Imp.le2 ?_ | refine awp_label ?_ | refine awp_skip ?_ | refine awp_exit ?_ | refine awp_cd ?_ | refine awp_ret ?_ | refine callK_of (hre) ?_ | refine callK_of (hsh) ?_ | refine callK_of (hA) ?_ | refine go_split (fun _h => ?_) (fun _h => ?_)) <;> try simp (maxSteps := 4000000) only [go_sem, seval])
    | (intro _h)
    | (refine awp_block ?_)
    | (refine awp_scope ?_)
    | (refine cond_b (fun _h => ?_) (fun _h => ?_))
    | (show heapOK _ _ = true; kernel_rfl)
    | (show heapOK2 _ _ = true; kernel_rfl)
    | (omega)))
    | true =>
      rw [hS] at hsh
      obtain ⟨hb, h0⟩ := readyB_ok hR
      obtain ⟨hP, hP1, hP2⟩ := shortB_ok hS
      have ht := faultT_zero h0
      have hln := ht.homes
      have hto := Town_c t hb
      have hfa := Fails_c t hb
      have hpl := Plan_c t hb
      have hpt := planTo_c plan hP
      have hpr := prove_c t plan hb hP
      cases hI : failI t with
      | none =>
        have e1 : failsE t = 7 := by simp [failsE, h0, hI]
        have e2 : planE t = 0 := by
          have := failI_none.1 hI (t.homes.length - 1) (by omega)
          rw [show t.homes.length - 1 + 1 = t.homes.length by omega] at this
          rw [planE_few h0, if_neg (by omega)]
        rw [e1] at hfa
        simp only [planV, e2, if_true] at hpl
        simp only [slB, townC, slH, slL] at hre hsh hto hfa hpl ⊢
        (refine callS_of_awp (fun w args => Try.call7 ..) Try.func7 rfl (fun w0 m0 wz => ?_); simp only [Try.ntmps7, Try.results7, initT, junks, homeC, hallC, slH, slL, townC, sl, List.toList_toArray, List.cons_append, List.nil_append, List.length_cons, List.length_nil, Nat.reduceAdd, Nat.reduceSub])
        (repeat' (first
    | (refine awp_seqK ?_)
    | (refine kt ?_)
    | (refine And.intro ?_ ?_)
    | ((first | refine awp_region ?_ | refine awp_draw (by kernel_rfl) (by kernel_rfl) ?_ | refine Imp.le2 ?_ | refine awp_label ?_ | refine awp_skip ?_ | refine awp_exit ?_ | refine awp_cd ?_ | refine awp_ret ?_ | refine callK_of (hre) ?_ | refine callK_of (hsh) ?_ | refine callK_of (hto) ?_ | refine callK_of (hfa) ?_ | refine callK_of (hpl) ?_ | refine callK_of (hA) ?_ | refine go_split (fun _h => ?_) (fun _h => ?_)) <;> try simp (maxSteps := 4000000) only [go_sem, seval])
    | (intro _h)
    | (refine awp_block ?_)
    | (refine awp_scope ?_)
    | (refine cond_b (fun _h => ?_) (fun _h => ?_))
    | (show heapOK _ _ = true; kernel_rfl)
    | (show heapOK2 _ _ = true; kernel_rfl)
    | (omega)))
        all_goals trace_state
      | some n =>
        obtain ⟨i1, i2, i3⟩ := failI_some.1 hI
        have e1 : failsE t = 0 := by simp [failsE, h0, hI]
        have e2 : failsN t = n := by simp [failsN, h0, hI]
        have e3 : planE t = 9 := by
          rw [planE_few h0, if_pos]
          rcases Int.lt_or_le (fewN t t.homes.length) 1000 with h | h
          · have := few_mono ht (n := n + 1) (by omega) (Nat.le_refl _) h; omega
          · exact h
        have e4 : planV t = .nils := by simp [planV, e3]
        have e5 : proveB t plan = false := by
          unfold proveB
          cases hq : rightB t plan
          · simp
          · have := (plan_few h0 hq).2; omega
        rw [e1, e2] at hfa
        rw [e3, e4] at hpl
        rw [e5] at hpr
        by_cases hn : n = 0
        · subst hn
          simp only [slB, townC, slH, slL] at hre hsh hto hfa hpl hpt hpr ⊢
          (refine callS_of_awp (fun w args => Try.call7 ..) Try.func7 rfl (fun w0 m0 wz => ?_); simp only [Try.ntmps7, Try.results7, initT, junks, homeC, hallC, slH, slL, townC, sl, List.toList_toArray, List.cons_append, List.nil_append, List.length_cons, List.length_nil, Nat.reduceAdd, Nat.reduceSub])
          (repeat' (first
    | ((exfalso; omega))
    | (refine awp_seqK ?_)
    | (refine kt ?_)
    | (refine And.intro ?_ ?_)
    | ((first | refine awp_region ?_ | refine awp_draw (by kernel_rfl) (by kernel_rfl) ?_ | refine Imp.le2 ?_ | refine awp_label ?_ | refine awp_skip ?_ | refine awp_exit ?_ | refine awp_cd ?_ | refine awp_ret ?_ | refine callK_of (hre) ?_ | refine callK_of (hsh) ?_ | refine callK_of (hto) ?_ | refine callK_of (hfa) ?_ | refine callK_of (hpl) ?_ | refine callK_of (hpt) ?_ | refine callK_of (hpr) ?_ | refine callK_of (hA) ?_ | refine go_split (fun _h => ?_) (fun _h => ?_)) <;> try simp (maxSteps := 4000000) only [go_sem, seval])
    | (intro _h)
    | (refine awp_block ?_)
    | (refine awp_scope ?_)
    | (refine cond_b (fun _h => ?_) (fun _h => ?_))
    | (show heapOK _ _ = true; kernel_rfl)
    | (show heapOK2 _ _ = true; kernel_rfl)
    | (omega)))
          all_goals trace_state
        · have eN : ((n : Int) = 0) = False := eq_false (by omega)
          have hso := some_few ht (n := n) (by omega) (by omega) (by have := i3 (n - 1) (by omega); rwa [show n - 1 + 1 = n by omega] at this)
          have hps := Plan_c (some0 t n) (some_ok ht (by omega) (by omega)).ok
          simp only [planV, hso, if_true] at hps
          have hsl : (some0 t n).homes.length = n := by simp [some0]; omega
          have hsL : (t.homes.take n).length = n := by simp; omega
          have hw := window_H (l := t.homes) (n := n)
          rw [Nat.zero_mul] at hw
          simp only [slB, townC, slH, slL, some0, hsL] at hre hsh hto hfa hpl hpt hpr hps ⊢
          (refine callS_of_awp (fun w args => Try.call7 ..) Try.func7 rfl (fun w0 m0 wz => ?_); simp only [Try.ntmps7, Try.results7, initT, junks, homeC, hallC, slH, slL, townC, sl, List.toList_toArray, List.cons_append, List.nil_append, List.length_cons, List.length_nil, Nat.reduceAdd, Nat.reduceSub])
          (repeat' (first
    | ((exfalso; omega))
    | (refine awp_seqK ?_)
    | (refine kt ?_)
    | (refine And.intro ?_ ?_)
    | ((first | refine awp_region ?_ | refine awp_draw (by kernel_rfl) (by kernel_rfl) ?_ | refine Imp.le2 ?_ | refine awp_label ?_ | refine awp_skip ?_ | refine awp_exit ?_ | refine awp_cd ?_ | refine awp_ret ?_ | refine callK_of (hre) ?_ | refine callK_of (hsh) ?_ | refine callK_of (hto) ?_ | refine callK_of (hfa) ?_ | refine callK_of (hpl) ?_ | refine callK_of (hpt) ?_ | refine callK_of (hpr) ?_ | refine callK_of (hps) ?_ | refine callK_of (hA) ?_ | refine go_split (fun _h => ?_) (fun _h => ?_)) <;> try simp (maxSteps := 4000000) only [go_sem, seval, eN, decide_false, hw])
    | (intro _h)
    | (refine awp_block ?_)
    | (refine awp_scope ?_)
    | (refine cond_b (fun _h => ?_) (fun _h => ?_))
    | (show heapOK _ _ = true; kernel_rfl)
    | (show heapOK2 _ _ = true; kernel_rfl)
    | (omega)))
          all_goals trace_state
end Go.Am
