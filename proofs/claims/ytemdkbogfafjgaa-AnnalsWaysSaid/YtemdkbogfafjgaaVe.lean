/- Parts UkQ, VwI of the proof, one behind the other. No statement is proved here. -/
import Derived.Test.YtemdkbogfafjgaaVb
import Derived.Test.YtemdkbogfafjgaaV4
/- The law AnnalsWays, as a contract: it returns true, if awake does. -/
namespace Go.Am
open Go.RowKit Go.Proofs
attribute [local irreducible] AWP CallS Kt goK CallK stepK evOps SemF SemY Imp
set_option maxRecDepth 4000
set_option linter.unusedSimpArgs false
set_option linter.unusedVariables false
set_option maxHeartbeats 6400000
theorem nth_G0 {l : List (Int × Int)} {i : Nat} {K : AV → Prop} : optK (nth (recs rngC l) (i * 2)) K = (i < l.length ∧ K (.int .i64 (l.getD i default).1)) := nth_recs (sz := 2) (o := 0) (fun _ => rfl) (by omega)
theorem nth_G1 {l : List (Int × Int)} {i : Nat} {K : AV → Prop} : optK (nth (recs rngC l) (i * 2 + 1)) K = (i < l.length ∧ K (.int .i64 (l.getD i default).2)) := nth_recs (sz := 2) (o := 1) (fun _ => rfl) (by omega)
attribute [go_sem] nth_G0 nth_G1
theorem waysEq_c (a b : List (List Int)) (ha : a.length ≤ 1000000) (hra : ∀ s ∈ a, s.length ≤ 1000000) : CallS Try.prog 24 [slW a, slW b] (.bool (decide (a = b))) := by
  have hyes : a.length = b.length → (∀ j, j < a.length → a.getD j [] = b.getD j []) → true = decide (a = b) := fun h1 h2 => by
    refine (decide_eq_true ?_).symm
    apply List.ext_getElem h1
    intro i g1 g2
    have := h2 i g1
    simpa [List.getD_eq_getElem?_getD, g1, g2] using this
  have hno1 : ¬ a.length = b.length → false = decide (a = b) := fun h => (decide_eq_false (fun e => h (by rw [e]))).symm
  have hno2 : ∀ j, ¬ a.getD j [] = b.getD j [] → false = decide (a = b) := fun j h => (decide_eq_false (fun e => h (by rw [e]))).symm
  generalize decide (a = b) = r at *
  simp only [slW]
  by_cases hl : a.length = b.length
  · have hyes := hyes hl
    clear hno1
    (refine callS_of_awp (fun w args => Try.call24 ..) Try.func24 rfl (fun w0 m0 wz => ?_); simp only [Try.ntmps24, Try.results24, initT, junks, rptC, clmC, slR, slC, annC, sl, List.toList_toArray, List.cons_append, List.nil_append, List.length_cons, List.length_nil, Nat.reduceAdd, Nat.reduceSub])
    (repeat' (first
    | ((omega))
    | ((exfalso; omega))
    | (refine awp_seqK ?_)
    | (refine kt ?_)
    | (refine And.intro ?_ ?_)
    | ((first | refine awp_region ?_ | refine awp_draw (by kernel_rfl) (by kernel_rfl) ?_ | refine Imp.le2 ?_ | refine awp_label ?_ | refine awp_skip ?_ | refine awp_exit ?_ | refine awp_cd ?_ | refine awp_ret ?_ | refine go_split (fun _h => ?_) (fun _h => ?_)) <;> try simp (maxSteps := 4000000) only [go_sem, seval])
    | (intro _h)
    | (refine awp_block ?_)
    | (refine awp_scope ?_)
    | (refine cond_b (fun _h => ?_) (fun _h => ?_))
    | (show heapOK _ _ = true; kernel_rfl)
    | (show heapOK2 _ _ = true; kernel_rfl)
    | (omega)))
    refine awp_loopJ (fun i : Nat => i ≤ a.length ∧ ∀ j, j < i → a.getD j [] = b.getD j []) (fun i => ⟨mkT 27 [(0, .psl false a.length (rowsC a)), (1, .psl false b.length (rowsC b)), (5, .int .i64 i)], [], []⟩) (fun i => a.length - i) 0 ⟨Nat.zero_le _, fun j hj => by omega⟩ (.le2 ?_) ?_
    · simp (maxSteps := 4000000) only [go_sem, seval]
      all_goals first | rfl | trace_state
    · rintro i ⟨hi, hI⟩
      rcases Nat.lt_or_eq_of_le hi with hi1 | hi1
      · have nA := fun K => rows_nth (l := a) hi1 (K := K)
        have nB := fun K => rows_nth (l := b) (i := i) (by omega) (K := K)
        have hlr := hra _ (mem_row.2 ⟨i, hi1, rfl⟩)
        have hic := ints_c (a.getD i []) (b.getD i []) (by omega)
        have hno := hno2 i
        have hstep : a.getD i [] = b.getD i [] → ∀ j, j < i + 1 → a.getD j [] = b.getD j [] := fun h j hj => by
          by_cases e : j = i
          · subst e; exact h
          · exact hI j (by omega)
        generalize a.getD i [] = u at *
        generalize b.getD i [] = v at *
        simp only [sl] at hic
        by_cases e : u = v
        · rw [decide_eq_true e] at hic
          simp (maxSteps := 4000000) only [go_sem, seval]
          (repeat' (first
    | ((omega))
    | ((exfalso; omega))
    | (refine awp_seqK ?_)
    | (refine kt ?_)
    | (refine And.intro ?_ ?_)
    | ((first | refine awp_region ?_ | refine awp_draw (by kernel_rfl) (by kernel_rfl) ?_ | refine Imp.le2 ?_ | refine awp_label ?_ | refine awp_skip ?_ | refine awp_exit ?_ | refine awp_cd ?_ | refine awp_ret ?_ | refine callK_of (hic) ?_ | refine go_split (fun _h => ?_) (fun _h => ?_)) <;> try simp (maxSteps := 4000000) only [go_sem, seval, nA, nB])
    | (intro _h)
    | (refine awp_block ?_)
    | (refine awp_scope ?_)
    | (refine cond_b (fun _h => ?_) (fun _h => ?_))
    | (show heapOK _ _ = true; kernel_rfl)
    | (show heapOK2 _ _ = true; kernel_rfl)
    | (omega)))
          all_goals first
            | (refine ⟨i + 1, ⟨hi1, hstep e⟩, by omega, .le2 ?_⟩
               simp (maxSteps := 4000000) only [go_sem, seval]
               all_goals first | rfl | trace_state)
            | trace_state
        · rw [decide_eq_false e] at hic
          have hno := hno e
          simp (maxSteps := 4000000) only [go_sem, seval]
          (repeat' (first
    | ((exact hno))
    | ((exact hno.symm))
    | ((omega))
    | ((exfalso; omega))
    | (refine awp_seqK ?_)
    | (refine kt ?_)
    | (refine And.intro ?_ ?_)
    | ((first | refine awp_region ?_ | refine awp_draw (by kernel_rfl) (by kernel_rfl) ?_ | refine Imp.le2 ?_ | refine awp_label ?_ | refine awp_skip ?_ | refine awp_exit ?_ | refine awp_cd ?_ | refine awp_ret ?_ | refine callK_of (hic) ?_ | refine go_split (fun _h => ?_) (fun _h => ?_)) <;> try simp (maxSteps := 4000000) only [go_sem, seval, nA, nB])
    | (intro _h)
    | (refine awp_block ?_)
    | (refine awp_scope ?_)
    | (refine cond_b (fun _h => ?_) (fun _h => ?_))
    | (show heapOK _ _ = true; kernel_rfl)
    | (show heapOK2 _ _ = true; kernel_rfl)
    | (omega)))
          all_goals trace_state
      · subst hi1
        have hyes := hyes hI
        simp (maxSteps := 4000000) only [go_sem, seval]
        (repeat' (first
    | ((exact hyes))
    | ((exact hyes.symm))
    | ((omega))
    | ((exfalso; omega))
    | (refine awp_seqK ?_)
    | (refine kt ?_)
    | (refine And.intro ?_ ?_)
    | ((first | refine awp_region ?_ | refine awp_draw (by kernel_rfl) (by kernel_rfl) ?_ | refine Imp.le2 ?_ | refine awp_label ?_ | refine awp_skip ?_ | refine awp_exit ?_ | refine awp_cd ?_ | refine awp_ret ?_ | refine go_split (fun _h => ?_) (fun _h => ?_)) <;> try simp (maxSteps := 4000000) only [go_sem, seval])
    | (intro _h)
    | (refine awp_block ?_)
    | (refine awp_scope ?_)
    | (refine cond_b (fun _h => ?_) (fun _h => ?_))
    | (show heapOK _ _ = true; kernel_rfl)
    | (show heapOK2 _ _ = true; kernel_rfl)
    | (omega)))
        all_goals trace_state
  · have hno1 := hno1 hl
    (refine callS_of_awp (fun w args => Try.call24 ..) Try.func24 rfl (fun w0 m0 wz => ?_); simp only [Try.ntmps24, Try.results24, initT, junks, rptC, clmC, slR, slC, annC, sl, List.toList_toArray, List.cons_append, List.nil_append, List.length_cons, List.length_nil, Nat.reduceAdd, Nat.reduceSub])
    (repeat' (first
    | ((exact hno1))
    | ((exact hno1.symm))
    | ((omega))
    | ((exfalso; omega))
    | (refine awp_seqK ?_)
    | (refine kt ?_)
    | (refine And.intro ?_ ?_)
    | ((first | refine awp_region ?_ | refine awp_draw (by kernel_rfl) (by kernel_rfl) ?_ | refine Imp.le2 ?_ | refine awp_label ?_ | refine awp_skip ?_ | refine awp_exit ?_ | refine awp_cd ?_ | refine awp_ret ?_ | refine go_split (fun _h => ?_) (fun _h => ?_)) <;> try simp (maxSteps := 4000000) only [go_sem, seval])
    | (intro _h)
    | (refine awp_block ?_)
    | (refine awp_scope ?_)
    | (refine cond_b (fun _h => ?_) (fun _h => ?_))
    | (show heapOK _ _ = true; kernel_rfl)
    | (show heapOK2 _ _ = true; kernel_rfl)
    | (omega)))
    all_goals trace_state
theorem waysLaw (hA : CallS Try.prog 17 [] (.bool true)) (t : Ann) (hkd : ∀ c ∈ t.claims, 0 ≤ c.kind) : CallS Try.prog 3 [.agg (annC t)] (.bool true) := by
  have hfe := few_c t
  cases hF : fewB t with
  | false =>
    rw [hF] at hfe
    simp only [annC, slR, slC] at hfe ⊢
    (refine callS_of_awp (fun w args => Try.call3 ..) Try.func3 rfl (fun w0 m0 wz => ?_); simp only [Try.ntmps3, Try.results3, initT, junks, rptC, clmC, slR, slC, annC, sl, List.toList_toArray, List.cons_append, List.nil_append, List.length_cons, List.length_nil, Nat.reduceAdd, Nat.reduceSub])
    (repeat' (first
    | (refine awp_seqK ?_)
    | (refine kt ?_)
    | (refine And.intro ?_ ?_)
    | ((first | refine awp_region ?_ | refine awp_draw (by kernel_rfl) (by kernel_rfl) ?_ | refine Imp.le2 ?_ | refine awp_label ?_ | refine awp_skip ?_ | refine awp_exit ?_ | refine awp_cd ?_ | refine awp_ret ?_ | refine callK_of (hfe) ?_ | refine callK_of (hA) ?_ | refine go_split (fun _h => ?_) (fun _h => ?_)) <;> try simp (maxSteps := 4000000) only [go_sem, seval])
    | (intro _h)
    | (refine awp_block ?_)
    | (refine awp_scope ?_)
    | (refine cond_b (fun _h => ?_) (fun _h => ?_))
    | (show heapOK _ _ = true; kernel_rfl)
    | (show heapOK2 _ _ = true; kernel_rfl)
    | (omega)))
    all_goals trace_state
  | true =>
    rw [hF] at hfe
    obtain ⟨hb, hn4⟩ := few_ok hF
    have han := annals_c t hb
    have hfa := fault_c t hb
    have hwa := Ways_c t hb (fun h => faultA_ok hkd h)
    have hda := Days_c t hb (fun h => faultA_ok hkd h) (fun h0 h => fiV_mir (faultA_ok hkd h0) (mirA_ok (faultA_ok hkd h0)) h)
    have w3 : wayV t = if wayE t = 0 then slW (waV t).1 else .nils := rfl
    have e3 : dayV t = if dayE t = 0 then slG (tab t.reports.length (dayF (fiV t).2 (fiV (mirA t)).2)) else .nils := rfl
    rw [w3] at hwa
    rw [e3] at hda
    by_cases h0 : faultA t = 0
    · have ht := faultA_ok hkd h0
      have hn4 := hn4 h0
      have hr := ht.reports
      rw [h0] at hfa
      obtain ⟨r1, r2, r3, r4, r5, r6, r7⟩ := runs_p ht
      have hwl := ways_few ht hn4
      have r6 := r6 hwl
      have w1 : wayE t = if (waV t).1.length = 0 then 9 else if 100 < (waV t).1.length then 3 else 0 := by unfold wayE; rw [if_pos h0]
      have e1 : dayE t = if (fiV t).1 = true then 0 else 9 := by unfold dayE; rw [if_pos h0]
      have hwf := way_fd ht
      rw [w1] at hwa
      rw [e1] at hda
      cases hv : (fiV t).1 with
      | false =>
        have hl0 := r3.2 hv
        have hL0 : (waV t).1.length = 0 := by
          apply Classical.byContradiction
          intro h9
          have := hwf.2 h9
          rw [hv] at this; cases this
        rw [if_pos hL0, if_neg (by omega)] at hwa
        rw [hv] at hda
        simp only [Bool.false_eq_true, if_false] at hda
        rw [if_neg (by omega)] at hda
        generalize rsA t = rs at *
        simp only [annC, slR, slC, Go.Am.slU, hl0] at hfe han hfa hwa hda r1 ⊢
        (refine callS_of_awp (fun w args => Try.call3 ..) Try.func3 rfl (fun w0 m0 wz => ?_); simp only [Try.ntmps3, Try.results3, initT, junks, rptC, clmC, slR, slC, annC, sl, List.toList_toArray, List.cons_append, List.nil_append, List.length_cons, List.length_nil, Nat.reduceAdd, Nat.reduceSub])
        (repeat' (first
    | ((omega))
    | ((exfalso; omega))
    | (refine awp_seqK ?_)
    | (refine kt ?_)
    | (refine And.intro ?_ ?_)
    | ((first | refine awp_region ?_ | refine awp_draw (by kernel_rfl) (by kernel_rfl) ?_ | refine Imp.le2 ?_ | refine awp_label ?_ | refine awp_skip ?_ | refine awp_exit ?_ | refine awp_cd ?_ | refine awp_ret ?_ | refine callK_of (hfe) ?_ | refine callK_of (han) ?_ | refine callK_of (hfa) ?_ | refine callK_of (hwa) ?_ | refine callK_of (hda) ?_ | refine callK_of (r1) ?_ | refine callK_of (hA) ?_ | refine go_split (fun _h => ?_) (fun _h => ?_)) <;> try simp (maxSteps := 4000000) only [go_sem, seval])
    | (intro _h)
    | (refine awp_block ?_)
    | (refine awp_scope ?_)
    | (refine cond_b (fun _h => ?_) (fun _h => ?_))
    | (show heapOK _ _ = true; kernel_rfl)
    | (show heapOK2 _ _ = true; kernel_rfl)
    | (omega)))
        all_goals trace_state
      | true =>
        have hl0 : ¬ (rsA t).length = 0 := fun h9 => by have := r3.1 h9; rw [hv] at this; cases this
        have hL0 := hwf.1 hv
        rw [if_neg hL0, if_neg (show ¬ 100 < (waV t).1.length by omega), if_pos rfl] at hwa
        rw [hv] at hda
        simp only [if_true] at hda
        have hdr := DaysR_c t (rsA t) hb (by omega) r2 r5
        rw [r7 hv] at hdr
        have hwr := WaysR_c (rsA t) r2 r4
        rw [r6] at hwr
        have hwe := waysEq_c (waV t).1 (waV t).1 (by omega) (fun s hs => by
          obtain ⟨C, D, _, rfl⟩ := (waV_spec ht).2.mem s hs
          rw [SL_len]; omega)
        rw [decide_eq_true rfl] at hwe
        have hla : (tab t.reports.length (dayF (fiV t).2 (fiV (mirA t)).2)).length = t.reports.length := tab_length
        generalize tab t.reports.length (dayF (fiV t).2 (fiV (mirA t)).2) = T at *
        generalize (waV t).1 = L at *
        generalize rsA t = rs at *
        simp only [annC, slR, slC, Go.Am.slU, slW, slG, hla] at hfe han hfa hwa hda r1 hdr hwr hwe ⊢
        (refine callS_of_awp (fun w args => Try.call3 ..) Try.func3 rfl (fun w0 m0 wz => ?_); simp only [Try.ntmps3, Try.results3, initT, junks, rptC, clmC, slR, slC, annC, sl, List.toList_toArray, List.cons_append, List.nil_append, List.length_cons, List.length_nil, Nat.reduceAdd, Nat.reduceSub])
        (repeat' (first
    | ((omega))
    | ((exfalso; omega))
    | (refine awp_seqK ?_)
    | (refine kt ?_)
    | (refine And.intro ?_ ?_)
    | ((first | refine awp_region ?_ | refine awp_draw (by kernel_rfl) (by kernel_rfl) ?_ | refine Imp.le2 ?_ | refine awp_label ?_ | refine awp_skip ?_ | refine awp_exit ?_ | refine awp_cd ?_ | refine awp_ret ?_ | refine callK_of (hfe) ?_ | refine callK_of (han) ?_ | refine callK_of (hfa) ?_ | refine callK_of (hwa) ?_ | refine callK_of (hda) ?_ | refine callK_of (r1) ?_ | refine callK_of (hdr) ?_ | refine callK_of (hwr) ?_ | refine callK_of (hwe) ?_ | refine callK_of (hA) ?_ | refine go_split (fun _h => ?_) (fun _h => ?_)) <;> try simp (maxSteps := 4000000) only [go_sem, seval, hla])
    | (intro _h)
    | (refine awp_block ?_)
    | (refine awp_scope ?_)
    | (refine cond_b (fun _h => ?_) (fun _h => ?_))
    | (show heapOK _ _ = true; kernel_rfl)
    | (show heapOK2 _ _ = true; kernel_rfl)
    | (omega)))
        refine awp_loopN t.reports.length (fun j => ⟨mkT 122 [(5, .psl false t.reports.length (recs rngC T)), (9, .psl false t.reports.length (recs rngC T)), (10, .int .i64 j)], [], []⟩) (.le2 ?_) ?_
        · simp (maxSteps := 4000000) only [go_sem, seval]
          all_goals first | rfl | trace_state
        · intro j hj
          rcases Nat.lt_or_eq_of_le hj with hj1 | hj1
          · simp (maxSteps := 4000000) only [go_sem, seval]
            (repeat' (first
    | ((exact eqOK 48))
    | ((exact tkb48))
    | ((show _ = _; exact tkb48))
    | ((omega))
    | ((exfalso; omega))
    | (refine awp_seqK ?_)
    | (refine kt ?_)
    | (refine And.intro ?_ ?_)
    | ((first | refine awp_region ?_ | refine awp_draw (by kernel_rfl) (by kernel_rfl) ?_ | refine Imp.le2 ?_ | refine awp_label ?_ | refine awp_skip ?_ | refine awp_exit ?_ | refine awp_cd ?_ | refine awp_ret ?_ | refine callK_of (span_c _ _) ?_ | refine go_split (fun _h => ?_) (fun _h => ?_)) <;> try simp (maxSteps := 4000000) only [go_sem, seval, hla])
    | (intro _h)
    | (refine awp_block ?_)
    | (refine awp_scope ?_)
    | (refine cond_b (fun _h => ?_) (fun _h => ?_))
    | (show heapOK _ _ = true; kernel_rfl)
    | (show heapOK2 _ _ = true; kernel_rfl)
    | (omega)))
            all_goals first | (exfalso; simp at _h; done) | trace_state
          · subst hj1
            simp (maxSteps := 4000000) only [go_sem, seval]
            (repeat' (first
    | ((omega))
    | ((exfalso; omega))
    | (refine awp_seqK ?_)
    | (refine kt ?_)
    | (refine And.intro ?_ ?_)
    | ((first | refine awp_region ?_ | refine awp_draw (by kernel_rfl) (by kernel_rfl) ?_ | refine Imp.le2 ?_ | refine awp_label ?_ | refine awp_skip ?_ | refine awp_exit ?_ | refine awp_cd ?_ | refine awp_ret ?_ | refine callK_of (hA) ?_ | refine go_split (fun _h => ?_) (fun _h => ?_)) <;> try simp (maxSteps := 4000000) only [go_sem, seval])
    | (intro _h)
    | (refine awp_block ?_)
    | (refine awp_scope ?_)
    | (refine cond_b (fun _h => ?_) (fun _h => ?_))
    | (show heapOK _ _ = true; kernel_rfl)
    | (show heapOK2 _ _ = true; kernel_rfl)
    | (omega)))
            all_goals trace_state
    · have w1 : wayE t = faultA t := by unfold wayE; rw [if_neg h0]
      have e1 : dayE t = faultA t := by unfold dayE; rw [if_neg h0]
      rw [w1, if_neg h0] at hwa
      rw [e1, if_neg h0] at hda
      generalize faultA t = e at *
      simp only [annC, slR, slC] at hfe han hfa hwa hda ⊢
      (refine callS_of_awp (fun w args => Try.call3 ..) Try.func3 rfl (fun w0 m0 wz => ?_); simp only [Try.ntmps3, Try.results3, initT, junks, rptC, clmC, slR, slC, annC, sl, List.toList_toArray, List.cons_append, List.nil_append, List.length_cons, List.length_nil, Nat.reduceAdd, Nat.reduceSub])
      (repeat' (first
    | ((omega))
    | ((exfalso; omega))
    | (refine awp_seqK ?_)
    | (refine kt ?_)
    | (refine And.intro ?_ ?_)
    | ((first | refine awp_region ?_ | refine awp_draw (by kernel_rfl) (by kernel_rfl) ?_ | refine Imp.le2 ?_ | refine awp_label ?_ | refine awp_skip ?_ | refine awp_exit ?_ | refine awp_cd ?_ | refine awp_ret ?_ | refine callK_of (hfe) ?_ | refine callK_of (han) ?_ | refine callK_of (hfa) ?_ | refine callK_of (hwa) ?_ | refine callK_of (hda) ?_ | refine callK_of (hA) ?_ | refine go_split (fun _h => ?_) (fun _h => ?_)) <;> try simp (maxSteps := 4000000) only [go_sem, seval])
    | (intro _h)
    | (refine awp_block ?_)
    | (refine awp_scope ?_)
    | (refine cond_b (fun _h => ?_) (fun _h => ?_))
    | (show heapOK _ _ = true; kernel_rfl)
    | (show heapOK2 _ _ = true; kernel_rfl)
    | (omega)))
      all_goals trace_state
end Go.Am

/- The law AnnalsWays, as a contract: it returns true. -/
namespace Go.Am
open Go.RowKit Go.Proofs
theorem annalsWays_c (t : Ann) (ht : AnnR t) : CallS Try.prog 3 [.agg (annC t)] (.bool true) :=
  waysLaw awake_c t (fun c hc => (ht.claims c hc).1.1)
end Go.Am
